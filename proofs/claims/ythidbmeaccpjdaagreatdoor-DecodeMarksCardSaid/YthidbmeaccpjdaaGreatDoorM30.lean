/- Layer 15, plain: the signs of markup as entities, and the repair of UTF-8. Layer 12: the contract of Parse. How long the params of a content type are. How long the params of a type or a disposition are, by the length of what is read. -/
import Derived.Test.YthidbmeaccpjdaaGreatDoorM29
import Derived.Test.YthidbmeaccpjdaaGreatDoorM18
import Derived.Test.YthidbmeaccpjdaaGreatDoorM23
import Derived.Test.YthidbmeaccpjdaaGreatDoorM28
namespace Go.Proofs.YthidbmeaccpjdaaGreatDoor
open Go.RowKit
set_option linter.unusedVariables false
set_option maxHeartbeats 4000000
theorem dec_same {n n' b0 b1 b2 b3 c1 c2 c3 : Nat} (h1 : (1 < n ∧ b1 / 64 = 2) ↔ (1 < n' ∧ c1 / 64 = 2)) (e1 : 1 < n ∧ b1 / 64 = 2 → b1 = c1) (h2 : 1 < n ∧ b1 / 64 = 2 → ((2 < n ∧ b2 / 64 = 2) ↔ (2 < n' ∧ c2 / 64 = 2)))
  (e2 : (1 < n ∧ b1 / 64 = 2) ∧ (2 < n ∧ b2 / 64 = 2) → b2 = c2) (h3 : (1 < n ∧ b1 / 64 = 2) ∧ (2 < n ∧ b2 / 64 = 2) → ((3 < n ∧ b3 / 64 = 2) ↔ (3 < n' ∧ c3 / 64 = 2))) (e3 : (1 < n ∧ b1 / 64 = 2) ∧ (2 < n ∧ b2 / 64 = 2) ∧ (3 < n ∧ b3 / 64 = 2) → b3 = c3) :
  Lib.decodeN n b0 b1 b2 b3 = Lib.decodeN n' b0 c1 c2 c3 := by
 unfold Lib.decodeN
 by_cases k1 : 1 < n ∧ b1 / 64 = 2
 ·have m1 := h1.1 k1
  have q1 := e1 k1
  subst q1
  by_cases k2 : 2 < n ∧ b2 / 64 = 2
  ·have m2 := (h2 k1).1 k2
   have q2 := e2 ⟨k1, k2⟩
   subst q2
   by_cases k3 : 3 < n ∧ b3 / 64 = 2
   ·have m3 := (h3 ⟨k1, k2⟩).1 k3
    have q3 := e3 ⟨k1, k2, k3⟩
    subst q3
    simp only [k1, m1, k2, m2, k3, m3, and_self, and_true]
   ·have m3 : ¬ (3 < n' ∧ c3 / 64 = 2) := fun h => k3 ((h3 ⟨k1, k2⟩).2 h)
    simp only [k1, m1, k2, m2, k3, m3, and_self, and_true, and_false, if_false]
  ·have m2 : ¬ (2 < n' ∧ c2 / 64 = 2) := fun h => k2 ((h2 k1).2 h)
   simp only [k1, m1, k2, m2, and_self, and_true, and_false, false_and, if_false]
 ·have m1 : ¬ (1 < n' ∧ c1 / 64 = 2) := fun h => k1 (h1.2 h)
  simp only [k1, m1, and_false, false_and, if_false]
theorem markP_head (r : List UInt8) : ((0 < r.length ∧ bt r 0 / 64 = 2) ↔ (0 < (markP r).length ∧ bt (markP r) 0 / 64 = 2)) ∧ (0 < r.length ∧ bt r 0 / 64 = 2 → bt r 0 = bt (markP r) 0 ∧ (markP r).drop 1 = markP (r.drop 1)) := by
 cases r with
 | nil => exact ⟨⟨fun h => h, fun h => h⟩, fun h => absurd h.1 (Nat.lt_irrefl _)⟩
 | cons c t =>
  by_cases h1 : c = 38
  ·subst h1
   have e : markP (38 :: t) = [38, 97, 109, 112, 59] ++ markP t := rfl
   rw [e]
   refine ⟨⟨fun h => absurd h.2 ?_, fun h => absurd h.2 ?_⟩, fun h => absurd h.2 ?_⟩
   ·show ¬ (38 : Nat) / 64 = 2; decide
   ·show ¬ (38 : Nat) / 64 = 2; decide
   ·show ¬ (38 : Nat) / 64 = 2; decide
  ·by_cases h2 : c = 60
   ·subst h2
    have e : markP (60 :: t) = [38, 108, 116, 59] ++ markP t := rfl
    rw [e]
    refine ⟨⟨fun h => absurd h.2 ?_, fun h => absurd h.2 ?_⟩, fun h => absurd h.2 ?_⟩
    ·show ¬ (60 : Nat) / 64 = 2; decide
    ·show ¬ (38 : Nat) / 64 = 2; decide
    ·show ¬ (60 : Nat) / 64 = 2; decide
   ·have e : markP (c :: t) = c :: markP t := by
     show (if c = 38 then _ else if c = 60 then _ else [c]) ++ markP t = _
     rw [if_neg h1, if_neg h2]
     rfl
    rw [e]
    refine ⟨⟨fun h => ⟨Nat.succ_pos _, h.2⟩, fun h => ⟨Nat.succ_pos _, h.2⟩⟩, fun _ => ⟨rfl, rfl⟩⟩
theorem bt_cons (c : UInt8) (r : List UInt8) (i : Nat) : bt (c :: r) (i + 1) = bt r i := rfl
theorem bt_drop (r : List UInt8) (i : Nat) : bt (r.drop 1) i = bt r (i + 1) := by
 cases r with
 | nil => rfl
 | cons c t => rfl
theorem uN_mark (c : UInt8) (r : List UInt8) : uN (c :: markP r) = uN (c :: r) := by
 unfold uN
 simp only [bt_cons, List.length_cons]
 have h1 := markP_head r
 have h2 := markP_head (r.drop 1)
 have h3 := markP_head ((r.drop 1).drop 1)
 rw [List.length_drop] at h2
 rw [List.length_drop, List.length_drop] at h3
 simp only [bt_drop, Nat.zero_add, Nat.reduceAdd] at h2 h3
 have d1 : ∀ h : 0 < r.length ∧ bt r 0 / 64 = 2, (markP (r.drop 1)).length = (markP r).length - 1 ∧ bt (markP (r.drop 1)) 0 = bt (markP r) 1 := fun h => by
  rw [← (h1.2 h).2, List.length_drop, bt_drop]
  exact ⟨rfl, rfl⟩
 refine (dec_same (b0 := bt (c :: r) 0) ?_ ?_ ?_ ?_ ?_ ?_).symm
 ·have := h1.1
  constructor
  ·intro h; have := this.1 ⟨by omega, h.2⟩; exact ⟨by omega, this.2⟩
  ·intro h; have := this.2 ⟨by omega, h.2⟩; exact ⟨by omega, this.2⟩
 ·intro h
  exact (h1.2 ⟨by omega, h.2⟩).1
 ·intro h
  have d := d1 ⟨by omega, h.2⟩
  rw [d.1, d.2] at h2
  have := h2.1
  constructor
  ·intro k; have := this.1 ⟨by omega, k.2⟩; exact ⟨by omega, this.2⟩
  ·intro k; have := this.2 ⟨by omega, k.2⟩; exact ⟨by omega, this.2⟩
 ·intro h
  have d := d1 ⟨by omega, h.1.2⟩
  rw [d.1, d.2] at h2
  exact (h2.2 ⟨by omega, h.2.2⟩).1
 ·intro h
  have d := d1 ⟨by omega, h.1.2⟩
  have g := (h1.2 ⟨by omega, h.1.2⟩).2
  have g2 := (h2.2 ⟨by omega, h.2.2⟩).2
  have e : markP ((r.drop 1).drop 1) = ((markP r).drop 1).drop 1 := by rw [g, ← g2]
  rw [e, List.length_drop, List.length_drop, bt_drop, bt_drop] at h3
  have := h3.1
  constructor
  ·intro k; have := this.1 ⟨by omega, k.2⟩; exact ⟨by omega, this.2⟩
  ·intro k; have := this.2 ⟨by omega, k.2⟩; exact ⟨by omega, this.2⟩
 ·intro h
  have g := (h1.2 ⟨by omega, h.1.2⟩).2
  have g2 := (h2.2 ⟨by omega, h.2.1.2⟩).2
  have e : markP ((r.drop 1).drop 1) = ((markP r).drop 1).drop 1 := by rw [g, ← g2]
  rw [e, List.length_drop, List.length_drop, bt_drop, bt_drop] at h3
  exact (h3.2 ⟨by omega, h.2.2.2⟩).1
theorem repairP_cons (c : UInt8) (r : List UInt8) : repairP (c :: r) = Lib.encodeRune (uN (c :: r)).1 ++ repairP ((c :: r).drop (uN (c :: r)).2) := by
 have hp := uN_pos (c :: r) (by simp)
 have key : ∀ (f g : Nat) (l : List UInt8), l.length ≤ f → l.length ≤ g → repairF f l = repairF g l := by
  intro f
  induction f with
  | zero =>
   intro g l hf hg
   have : l = [] := List.eq_nil_of_length_eq_zero (by omega)
   subst this
   cases g <;> rfl
  | succ f ih =>
   intro g l hf hg
   cases g with
   | zero =>
    have : l = [] := List.eq_nil_of_length_eq_zero (by omega)
    subst this
    rfl
   | succ g =>
    unfold repairF
    by_cases hl : l = []
    ·rw [if_pos hl, if_pos hl]
    ·have := uN_pos l hl
     rw [if_neg hl, if_neg hl, ih g (l.drop (uN l).2) (by rw [List.length_drop]; omega) (by rw [List.length_drop]; omega)]
 unfold repairP
 rw [List.length_cons]
 conv => lhs; unfold repairF
 rw [if_neg (by simp), key r.length _ _ (by rw [List.length_drop, List.length_cons]; omega) (Nat.le_refl _)]
theorem repair_ascii {c : UInt8} (h : c < 128) (r : List UInt8) : repairP (c :: r) = c :: repairP r := by
 have h0 : c.toNat < 128 := h
 have e : uN (c :: r) = (c.toNat, 1) := by
  unfold uN Lib.decodeN
  have : bt (c :: r) 0 = c.toNat := rfl
  rw [this, if_pos h0]
 rw [repairP_cons, e]
 show Lib.encodeRune (c.toNat : Nat) ++ repairP r = _
 have e2 : Lib.encodeRune ((c.toNat : Nat) : Int) = [c] := by
  have := (by decide +kernel : ∀ n : Fin 128, Lib.encodeRune ((n.val : Nat) : Int) = [UInt8.ofNat n.val]) ⟨c.toNat, h0⟩
  simpa using this
 rw [e2]
 rfl
theorem markP_plain {a : List UInt8} (h : ∀ c ∈ a, c ≠ 38 ∧ c ≠ 60) (r : List UInt8) : markP (a ++ r) = a ++ markP r := by
 induction a with
 | nil => rfl
 | cons c t ih =>
  have h1 := h c (List.mem_cons_self ..)
  rw [List.cons_append, List.cons_append, ← ih fun x hx => h x (List.mem_cons_of_mem _ hx)]
  show (if c = 38 then _ else if c = 60 then _ else [c]) ++ markP (t ++ r) = _
  rw [if_neg h1.1, if_neg h1.2]
  rfl
theorem enc_high {n : Nat} (h : 128 ≤ n) : ∀ c ∈ Lib.encodeRune (n : Int), 128 ≤ c.toNat := by
 intro c hc
 unfold Lib.encodeRune at hc
 obtain ⟨x, hx, rfl⟩ := List.mem_map.1 hc
 have hb : 128 ≤ x ∧ x ≤ 255 := by
  unfold Lib.encodeRuneZ at hx
  split at hx
  ·omega
  ·split at hx
   ·simp at hx; omega
   ·split at hx
    ·simp at hx; omega
    ·split at hx
     ·simp at hx; omega
     ·simp at hx; omega
 show 128 ≤ (UInt8.ofNat x.toNat).toNat
 rw [UInt8.toNat_ofNat']
 omega
theorem repair_mark : ∀ (n : Nat) (l : List UInt8), l.length ≤ n → repairP (markP l) = markP (repairP l)
 | _, [], _ => rfl
 | 0, c :: r, h => by simp at h
 | n + 1, c :: r, h => by
  have hr : r.length ≤ n := by simp at h; omega
  by_cases h1 : c = 38
  ·subst h1
   show repairP (38 :: 97 :: 109 :: 112 :: 59 :: markP r) = _
   rw [repair_ascii (by decide), repair_ascii (by decide), repair_ascii (by decide), repair_ascii (by decide), repair_ascii (by decide), repair_ascii (c := 38) (by decide), repair_mark n r hr]
   rfl
  ·by_cases h2 : c = 60
   ·subst h2
    show repairP (38 :: 108 :: 116 :: 59 :: markP r) = _
    rw [repair_ascii (by decide), repair_ascii (by decide), repair_ascii (by decide), repair_ascii (by decide), repair_ascii (c := 60) (by decide), repair_mark n r hr]
    rfl
   ·have e : markP (c :: r) = c :: markP r := markP_plain (a := [c]) (by simp [h1, h2]) r
    rw [e]
    by_cases h3 : c.toNat < 128
    ·rw [repair_ascii h3, repair_ascii h3, repair_mark n r hr]
     exact (markP_plain (a := [c]) (by simp [h1, h2]) _).symm
    ·have hp := uN_pos (c :: r) (by simp)
     have hv : 128 ≤ (uN (c :: r)).1 := by
      have hb : bt (c :: r) 0 = c.toNat := rfl
      rcases uN_cases (c :: r) (by simp) with q | q | q | q
      ·rcases q.2 with q | q
       ·rw [hb] at q; omega
       ·omega
      ·omega
      ·omega
      ·omega
     have hd : (c :: markP r).drop (uN (c :: r)).2 = markP ((c :: r).drop (uN (c :: r)).2) := by
      have k1 := markP_head r
      have k2 := markP_head (r.drop 1)
      have k3 := markP_head ((r.drop 1).drop 1)
      rw [List.length_drop] at k2
      rw [List.length_drop, List.length_drop] at k3
      simp only [bt_drop, Nat.zero_add, Nat.reduceAdd] at k2 k3
      have b1 : bt (c :: r) 1 = bt r 0 := rfl
      have b2 : bt (c :: r) 2 = bt r 1 := rfl
      have b3 : bt (c :: r) 3 = bt r 2 := rfl
      rcases uN_cases (c :: r) (by simp) with q | q | q | q
      ·rw [q.1]; rfl
      ·rw [q.1]
       rw [b1, List.length_cons] at q
       exact (k1.2 ⟨by omega, by omega⟩).2
      ·rw [q.1]
       rw [b1, b2, List.length_cons] at q
       show (markP r).drop 2 = markP (r.drop 2)
       rw [show (2 : Nat) = 1 + 1 from rfl, ← List.drop_drop, (k1.2 ⟨by omega, by omega⟩).2, (k2.2 ⟨by omega, by omega⟩).2, List.drop_drop]
      ·rw [q.1]
       rw [b1, b2, b3, List.length_cons] at q
       show (markP r).drop 3 = markP (r.drop 3)
       rw [show (3 : Nat) = (1 + 1) + 1 from rfl, ← List.drop_drop, ← List.drop_drop, (k1.2 ⟨by omega, by omega⟩).2, (k2.2 ⟨by omega, by omega⟩).2, (k3.2 ⟨by omega, by omega⟩).2, List.drop_drop, List.drop_drop]
     rw [repairP_cons, uN_mark, hd, repair_mark n _ (by rw [List.length_drop]; omega), repairP_cons, markP_plain]
     intro x hx
     have := enc_high hv x hx
     exact ⟨fun e => by rw [e] at this; exact absurd this (by decide), fun e => by rw [e] at this; exact absurd this (by decide)⟩
def TypPost (w : World) (q : Typ × Bool) (e : Ending) (w' : World) : Prop := ∃ v, e = .returned (.tuple #[.agg #[.string (ba q.1.kind), .string (ba q.1.sub), v], .bool q.2]) ∧ OwnPars w' w.heap.size v q.1.params ∧ Below w.heap.size w w'
def plainT : Typ × Bool := (⟨[116, 101, 120, 116], [112, 108, 97, 105, 110], []⟩, false)
theorem parseT_eq (l : List UInt8) {r : List Tok} {rs : List (List Tok)} (h : tokRows l = r :: rs) : parseT l =
  if (cutV 47 (joinP r)).2.2 = true ∧ isWord (cutV 47 (joinP r)).1 = true ∧ isWord (cutV 47 (joinP r)).2.1 = true then (⟨smallP (cutV 47 (joinP r)).1, smallP (cutV 47 (joinP r)).2.1, paramsP rs⟩, true) else plainT := by
 unfold parseT cutV
 rw [h]
 simp only [List.headD_cons, List.drop_one, List.tail_cons]
 cases cutP 47 (joinP r) with
 | none => simp [plainT]
 | some q =>
  show (if isWord q.1 = true ∧ isWord q.2 = true then _ else _) = _
  by_cases h2 : isWord q.1 = true ∧ isWord q.2 = true
  ·rw [if_pos h2, if_pos ⟨rfl, h2⟩]
  ·rw [if_neg h2, if_neg fun h3 => h2 h3.2]
   rfl
theorem cells_at {W : World} {b : Nat} {cs : Array Value} {t : TypeId} (h : W.heap[b]? = some (.cells cs t)) (i : Nat) {u : Value} (hu : cs[i]? = some u) : W.cell? ⟨b, i, none⟩ = some u := by
 unfold World.cell?
 simp [h, hu]
theorem cells_free {W : World} {b : Nat} {cs : Array Value} {t : TypeId} (h : W.heap[b]? = some (.cells cs t)) (i : Nat) : W.frozen? ⟨b, i, none⟩ = false := by
 simp [World.frozen?, h]
theorem own_set3 {W : World} {B C k : Nat} {v : Value} {ps : List (List UInt8 × List UInt8)} (h : OwnPars W B v ps) (h2 : OwnPars W C v ps) (hk : k < C) (a b c : Value) : OwnPars (((W.setCell ⟨k, 0, none⟩ a).setCell ⟨k, 1, none⟩ b).setCell ⟨k, 2, none⟩ c) B v ps := h.block fun q e => by
 have hq : q ≠ k := by have := (h2.row.lt q e).1; omega
 rw [heap_setCell_other _ ⟨k, 2, none⟩ q _ hq, heap_setCell_other _ ⟨k, 1, none⟩ q _ hq, heap_setCell_other _ ⟨k, 0, none⟩ q _ hq]
theorem typ_fin {w w' : World} {q : Typ × Bool} {f g : List UInt8} {ps : List (List UInt8 × List UInt8)} {v : Value} {s t : ByteArray} {b : Bool} (h : q = (⟨f, g, ps⟩, b)) (hs : s = ba f) (ht : t = ba g) (ho : OwnPars w' w.heap.size v ps) (hb : Below w.heap.size w w') : TypPost w q (.returned (.tuple #[.agg #[.string s, .string t, v], .bool b])) w' := by
 subst h; subst hs; subst ht
 exact ⟨v, rfl, ho, hb⟩
theorem typ_plain {w w' : World} {q : Typ × Bool} (h : q = plainT) (ho : OwnPars w' w.heap.size (.slice none 0 0) []) (hb : Below w.heap.size w w') : TypPost w q (.returned (.tuple #[.agg #[.string ⟨#[116, 101, 120, 116]⟩, .string ⟨#[112, 108, 97, 105, 110]⟩, .slice none 0 0], .bool false])) w' := typ_fin h rfl rfl ho hb
set_option maxRecDepth 100000 in
theorem parse_any (l : List UInt8) (w : World) (hl : l.length ≤ 10000000) (hT : Tabs w) :
  Calls Tryz.prog 76 #[.string (ba l)] w (TypPost w (parseT l)) := by
 have HT := Lib.hid hT
 have HOK := Lib.hid (tokRows_ok l)
 obtain ⟨r, rs, hrs⟩ := rows_first l
 have HPT := Lib.hid (parseT_eq l hrs)
 have HRA := Lib.hid (fun W => rows_any l W (by omega))
 rw [hrs] at HOK
 simp only [hrs] at HRA
 unfold RowsPost at HRA
 have hrl := HOK.out.1 r (List.mem_cons_self ..)
 have hnl := HOK.out.2
 obtain ⟨⟨x, y, b⟩, hcv⟩ : ∃ q, cutV 47 (joinP r) = q := ⟨_, rfl⟩
 have hcl := cutV_len 47 (joinP r)
 rw [hcv] at HPT hcl
 have hxl : x.length ≤ 10000000 := by have h1 : x.length ≤ (joinP r).length := hcl.1; omega
 have hyl : y.length ≤ 10000000 := by have h1 : y.length ≤ (joinP r).length := hcl.2; omega
 have HCV := Lib.hid hcv
 have hB0 : Below w.heap.size w (w.alloc (.cells #[.string ⟨#[]⟩, .string ⟨#[]⟩, .slice none 0 0] 24)) := (Below.refl _ _).alloc (Nat.le_refl _) _
 have HB0 := Lib.hid hB0
 clear hT hrs hcl hcv hB0
 go_enter Tryz.func76, Tryz.ntmps76
 go_wp2_with fail
 refine (HRA.out _).mono ?_
 rintro e w1 ⟨v1, xs, rfl, hra, hb1⟩
 have hz1 : w.heap.size + 1 ≤ w1.heap.size := by have := hb1.size; simp at this; exact this
 have HBX1 := Lib.hid (show w1.heap[w.heap.size]? = some (.cells #[.string ⟨#[]⟩, .string ⟨#[]⟩, .slice none 0 0] 24) from (hb1.block w.heap.size (by simp)).trans (MapKept.heap_alloc w _).1)
 have HB1 := Lib.hid (HB0.out.trans (hb1.mono (by simp)))
 obtain ⟨A1, c1, rfl, hc1, hc2, hin⟩ := hra.rows
 have HIN := Lib.hid hin
 obtain ⟨ad, A2, c2, rfl, hbl, hcell, hc3, hc4, htk⟩ := hin.first
 have HTK := Lib.hid htk
 clear hra hb1 hin htk hc3 hc4
 have hl1 : (r :: rs).length = rs.length + 1 := rfl
 rw [hl1] at hc1 HIN hnl ⊢
 have HCUT := Lib.hid HIN.out.tail
 obtain ⟨m, hm⟩ : ∃ m, rs.length = m := ⟨_, rfl⟩
 rw [hm] at HCUT HIN hc1 hnl
 rw [hm]
 have HNL := Lib.hid hnl
 clear hl1 hm
 go_wp2_with fail
 refine (tjoin_any r A2 r.length c2 w1 HTK.out (by omega) (by omega)).mono ?_
 rintro e w2 ⟨rfl, hb2⟩
 have HB2 := Lib.hid hb2
 clear hb2
 go_wp2_with fail
 refine (cut_any 47 (joinP r) w2 (by omega) (HT.out.below (HB1.out.trans (HB2.out.mono HB1.out.size)))).mono ?_
 unfold CutPost
 rw [HCV.out]
 rintro e w3 ⟨rfl, nn, hw3⟩
 have hb3 : Below w1.heap.size w1 w3 := by rw [hw3]; exact below_drewN HB2.out nn
 have HB3 := Lib.hid hb3
 have HBX3 := Lib.hid ((hb3.block w.heap.size (by omega)).trans HBX1.out)
 have hz3 : w1.heap.size ≤ w3.heap.size := hb3.size
 clear hw3 hb3
 have d0 := cells_at HBX3.out 0 (u := .string ⟨#[]⟩) rfl
 have d1 := cells_at HBX3.out 1 (u := .string ⟨#[]⟩) rfl
 have d2 := cells_at HBX3.out 2 (u := .slice none 0 0) rfl
 have e0 := cells_free HBX3.out 0
 have e1 := cells_free HBX3.out 1
 have e2 := cells_free HBX3.out 2
 have HB13 := Lib.hid (show Below w.heap.size w w3 from HB1.out.trans (HB3.out.mono HB1.out.size))
 cases b with
 | false =>
  have HF := Lib.hid (show parseT l = plainT by rw [HPT.out, if_neg (by rintro ⟨h1, h2, h3⟩; cases h1)])
  go_wp2
  refine bodyPost_ret (v := .tuple #[.agg #[.string ⟨#[116, 101, 120, 116]⟩, .string ⟨#[112, 108, 97, 105, 110]⟩, .slice none 0 0], .bool false]) (by simp [results, Tryz.results76, go_sem, d0, d1, d2]) rfl ?_
  exact typ_plain HF.out (OwnPars.nil_ _ _) (((HB13.out.setCell (Nat.le_refl _) _).setCell (Nat.le_refl _) _).setCell (Nat.le_refl _) _)
 | true =>
  rcases Bool.eq_false_or_eq_true (isWord x) with hx | hx
  ·rcases Bool.eq_false_or_eq_true (isWord y) with hy | hy
   ·have HF := Lib.hid (show parseT l = (⟨smallP x, smallP y, paramsP rs⟩, true) by rw [HPT.out, if_pos ⟨rfl, hx, hy⟩])
    go_wp2_with fail
    refine (word_any x w3 (by omega)).mono ?_
    rintro e w4 ⟨he4, hw4⟩
    rw [hx] at he4
    subst he4
    have hw5 := hw4.symm
    subst hw5
    clear hw4
    go_wp2_with fail
    refine (word_any y w3 (by omega)).mono ?_
    rintro e w4 ⟨he4, hw4⟩
    rw [hy] at he4
    subst he4
    have hw5 := hw4.symm
    subst hw5
    clear hw4
    have HLI : Hid (∀ W, Below w3.heap.size w3 W → ∀ A9 n9 c9, (Value.slice A9 n9 c9 = .slice (some ⟨ad.block, ad.off + 1, none⟩) m (c1 - 1) ∨ (c1 = 1 ∧ Value.slice A9 n9 c9 = .slice (some ad) m 0)) → Calls Tryz.prog 154 #[.slice A9 n9 c9] W (ListPost W (paramsP rs))) := Lib.hid fun W hW A9 n9 c9 h9 => by
     have hb := HB3.out.trans (hW.mono HB3.out.size)
     have hin := (HCUT.out.below hb).more hb.size
     have hT2 := HT.out.below (HB13.out.trans (hW.mono HB13.out.size))
     have hj : ∀ r ∈ rs, (joinP r).length ≤ 10000000 ∧ r.length ≤ 1000000000 := fun r hr => by have := HOK.out.1 r (List.mem_cons_of_mem _ hr); omega
     rcases h9 with h9 | ⟨hc, h9⟩
     ·injection h9 with q1 q2 q3
      subst q1; subst q2; subst q3
      exact list_any rs _ _ _ W hin (by have := HNL.out; omega) hj hT2
     ·injection h9 with q1 q2 q3
      subst q1; subst q2; subst q3
      rcases hin.one (ad := ad) hc1 with ⟨_, h⟩ | ⟨h, _⟩
      ·exact list_any rs _ _ _ W h (by have := HNL.out; omega) hj hT2
      ·exact absurd hc h
    have HW := Lib.hid (show Below w3.heap.size w3 w3.drew from (Below.refl _ _).drew)
    have hxl9 : x.length ≤ 1000000000 := by omega
    have hyl9 : y.length ≤ 1000000000 := by omega
    have HFB := Lib.hid (show ∀ W, Below w3.heap.size w3 W → W.heap[w.heap.size]? = some (.cells #[.string ⟨#[]⟩, .string ⟨#[]⟩, .slice none 0 0] 24) from fun W hW => (hW.block w.heap.size (by omega)).trans HBX3.out)
    by_cases hcc : c1 = 1
    ·subst hcc
     have hm0 : m = 0 := by omega
     subst hm0
     have HLJ := Lib.hid (fun W hW => HLI.out W hW _ _ _ (.inr ⟨rfl, rfl⟩))
     clear hc1 hc2
     go_wp2
     go_region_with
      (first
       | (go_at_call 90; refine (csmall_any _ _ ?_).mono ?_; (first | exact hxl9 | exact hyl9); rintro e w9 ⟨rfl, hb9⟩; (
         have HW2 := Lib.hid (HW.out.trans (hb9.mono HW.out.size))
         (first | (have HO2 := Lib.hid (HO.out.below hb9); clear HO; have HO := HO2; clear HO2) | skip)
         clear HW hb9
         have HW := HW2
         clear HW2
         have p0 := cells_at (HFB.out _ HW.out) 0 (u := .string ⟨#[]⟩) rfl
         have p1 := cells_at (HFB.out _ HW.out) 1 (u := .string ⟨#[]⟩) rfl
         have p2 := cells_at (HFB.out _ HW.out) 2 (u := .slice none 0 0) rfl
         have q0 := cells_free (HFB.out _ HW.out) 0
         have q1 := cells_free (HFB.out _ HW.out) 1
         have q2 := cells_free (HFB.out _ HW.out) 2))
       | (go_at_call 154; refine (HLJ.out _ HW.out).mono ?_; rintro e w9 ⟨v9, rfl, ho9, hb9⟩; (
         obtain ⟨A9, c9, rfl, -, -, -⟩ := ho9.reads
         have HW2 := Lib.hid (HW.out.trans (hb9.mono HW.out.size))
         have HO := Lib.hid (ho9.more HW.out.size)
         clear HW hb9 ho9
         have HW := HW2
         clear HW2
         have p0 := cells_at (HFB.out _ HW.out) 0 (u := .string ⟨#[]⟩) rfl
         have p1 := cells_at (HFB.out _ HW.out) 1 (u := .string ⟨#[]⟩) rfl
         have p2 := cells_at (HFB.out _ HW.out) 2 (u := .slice none 0 0) rfl
         have q0 := cells_free (HFB.out _ HW.out) 0
         have q1 := cells_free (HFB.out _ HW.out) 1
         have q2 := cells_free (HFB.out _ HW.out) 2)))
     all_goals
      go_wp2
      refine bodyPost_ret (v := .tuple #[.agg #[.string (ba (smallP x)), .string (ba (smallP y)), .slice A9 (paramsP rs).length c9], .bool true]) (by simp [results, Tryz.results76, go_sem, p0, p1, p2]) rfl ?_
      exact typ_fin HF.out rfl rfl (own_set3 (HO.out.more (by omega)) HO.out (by omega) _ _ _) ((((HB13.out.trans (HW.out.mono HB13.out.size)).setCell (Nat.le_refl _) _).setCell (Nat.le_refl _) _).setCell (Nat.le_refl _) _)
    ·have HLJ := Lib.hid (fun W hW => HLI.out W hW _ _ _ (.inl rfl))
     go_wp2
     go_region_with
      (first
       | (go_at_call 90; refine (csmall_any _ _ ?_).mono ?_; (first | exact hxl9 | exact hyl9); rintro e w9 ⟨rfl, hb9⟩; (
         have HW2 := Lib.hid (HW.out.trans (hb9.mono HW.out.size))
         (first | (have HO2 := Lib.hid (HO.out.below hb9); clear HO; have HO := HO2; clear HO2) | skip)
         clear HW hb9
         have HW := HW2
         clear HW2
         have p0 := cells_at (HFB.out _ HW.out) 0 (u := .string ⟨#[]⟩) rfl
         have p1 := cells_at (HFB.out _ HW.out) 1 (u := .string ⟨#[]⟩) rfl
         have p2 := cells_at (HFB.out _ HW.out) 2 (u := .slice none 0 0) rfl
         have q0 := cells_free (HFB.out _ HW.out) 0
         have q1 := cells_free (HFB.out _ HW.out) 1
         have q2 := cells_free (HFB.out _ HW.out) 2))
       | (go_at_call 154; refine (HLJ.out _ HW.out).mono ?_; rintro e w9 ⟨v9, rfl, ho9, hb9⟩; (
         obtain ⟨A9, c9, rfl, -, -, -⟩ := ho9.reads
         have HW2 := Lib.hid (HW.out.trans (hb9.mono HW.out.size))
         have HO := Lib.hid (ho9.more HW.out.size)
         clear HW hb9 ho9
         have HW := HW2
         clear HW2
         have p0 := cells_at (HFB.out _ HW.out) 0 (u := .string ⟨#[]⟩) rfl
         have p1 := cells_at (HFB.out _ HW.out) 1 (u := .string ⟨#[]⟩) rfl
         have p2 := cells_at (HFB.out _ HW.out) 2 (u := .slice none 0 0) rfl
         have q0 := cells_free (HFB.out _ HW.out) 0
         have q1 := cells_free (HFB.out _ HW.out) 1
         have q2 := cells_free (HFB.out _ HW.out) 2)))
     all_goals
      go_wp2
      refine bodyPost_ret (v := .tuple #[.agg #[.string (ba (smallP x)), .string (ba (smallP y)), .slice A9 (paramsP rs).length c9], .bool true]) (by simp [results, Tryz.results76, go_sem, p0, p1, p2]) rfl ?_
      exact typ_fin HF.out rfl rfl (own_set3 (HO.out.more (by omega)) HO.out (by omega) _ _ _) ((((HB13.out.trans (HW.out.mono HB13.out.size)).setCell (Nat.le_refl _) _).setCell (Nat.le_refl _) _).setCell (Nat.le_refl _) _)
   ·have HF := Lib.hid (show parseT l = plainT by rw [HPT.out, if_neg (by rintro ⟨h1, h2, h3⟩; rw [hy] at h3; cases h3)])
    go_wp2_with fail
    refine (word_any x w3 (by omega)).mono ?_
    rintro e w4 ⟨he4, hw4⟩
    rw [hx] at he4
    subst he4
    have hw5 := hw4.symm
    subst hw5
    clear hw4
    go_wp2_with fail
    refine (word_any y w3 (by omega)).mono ?_
    rintro e w4 ⟨he4, hw4⟩
    rw [hy] at he4
    subst he4
    have hw5 := hw4.symm
    subst hw5
    clear hw4
    go_wp2
    refine bodyPost_ret (v := .tuple #[.agg #[.string ⟨#[116, 101, 120, 116]⟩, .string ⟨#[112, 108, 97, 105, 110]⟩, .slice none 0 0], .bool false]) (by simp [results, Tryz.results76, go_sem, d0, d1, d2]) rfl ?_
    exact typ_plain HF.out (OwnPars.nil_ _ _) (((HB13.out.setCell (Nat.le_refl _) _).setCell (Nat.le_refl _) _).setCell (Nat.le_refl _) _)
  ·have HF := Lib.hid (show parseT l = plainT by rw [HPT.out, if_neg (by rintro ⟨h1, h2, h3⟩; rw [hx] at h2; cases h2)])
   go_wp2_with fail
   refine (word_any x w3 (by omega)).mono ?_
   rintro e w4 ⟨he4, hw4⟩
   rw [hx] at he4
   subst he4
   have hw5 := hw4.symm
   subst hw5
   clear hw4
   go_wp2
   refine bodyPost_ret (v := .tuple #[.agg #[.string ⟨#[116, 101, 120, 116]⟩, .string ⟨#[112, 108, 97, 105, 110]⟩, .slice none 0 0], .bool false]) (by simp [results, Tryz.results76, go_sem, d0, d1, d2]) rfl ?_
   exact typ_plain HF.out (OwnPars.nil_ _ _) (((HB13.out.setCell (Nat.le_refl _) _).setCell (Nat.le_refl _) _).setCell (Nat.le_refl _) _)
theorem meantP_len (name s : List UInt8) : (meantP name s).length ≤ 4 * s.length := by
 unfold meantP
 split
 ·exact repair_len s
 ·exact decodeSet_len name s
theorem valueP_len {ones : List One1} (h : onesOk ones) (name : List UInt8) {v : List UInt8} (hv : valueP ones name = some v) : v.length ≤ 2570000000 := by
 unfold valueP at hv
 split at hv
 ·split at hv
  ·rename_i x hx
   injection hv with hv
   rw [← hv]
   have h1 := (h x (List.mem_of_find?_eq_some hx)).1
   have h2 := splitP_len x.value
   have h3 := openP_len _ (splitP x.value).2 (Nat.le_refl _)
   have h4 := meantP_len (splitP x.value).1 (openP (splitP x.value).2)
   omega
  ·obtain ⟨x, hx, rfl⟩ := Option.map_eq_some_iff.1 hv
   have h1 := (h x (first_mem hx)).1
   omega
 ·rename_i x hx
  have h1 := (h x (first_mem hx)).1
  have h2 := splitP_len x.value
  have h3 := openP_len _ (splitP x.value).2 (Nat.le_refl _)
  have h5 := restG_len h name 63 1
  split at hv
  ·injection hv with hv
   rw [← hv]
   have h4 := meantP_len (splitP x.value).1 (openP (splitP x.value).2 ++ restG ones name 63 1)
   rw [List.length_append] at h4
   omega
  ·injection hv with hv
   rw [← hv, List.length_append]
   omega
theorem rows_long {rs : List (List Tok)} (h : ∀ r ∈ rs, (joinP r).length ≤ 10000000) : (paramsP rs).length ≤ rs.length ∧ ∀ p ∈ paramsP rs, p.1.length ≤ 10000000 ∧ p.2.length ≤ 2570000000 := by
 have h2 := onesP_len rs
 constructor
 ·unfold paramsP
  refine Nat.le_trans (List.length_filterMap_le _ _) ?_
  have h1 := namesP_len (onesP rs) []
  simp only [List.length_nil] at h1
  unfold namesP
  omega
 ·intro p hp
  unfold paramsP at hp
  obtain ⟨n, hn, he⟩ := List.mem_filterMap.1 hp
  obtain ⟨v, hv, rfl⟩ := Option.map_eq_some_iff.1 he
  refine ⟨?_, valueP_len (onesP_ok h) n hv⟩
  rcases namesP_mem (onesP rs) [] n hn with h2 | ⟨o, ho, rfl⟩
  ·cases h2
  ·exact (onesP_ok h o ho).2
theorem typ_long {l : List UInt8} (hl : l.length ≤ 10000000) : (parseT l).1.params.length ≤ 10000000 ∧ ∀ p ∈ (parseT l).1.params, p.1.length ≤ 10000000 ∧ p.2.length ≤ 2570000000 := by
 have h := tokRows_ok l
 have h3 : ((tokRows l).drop 1).length ≤ l.length := by rw [List.length_drop]; have := h.2; omega
 have h1 := rows_long (rs := (tokRows l).drop 1) (fun r hr => Nat.le_trans (h.1 r (List.mem_of_mem_drop hr)).1 hl)
 unfold parseT
 split
 ·exact ⟨Nat.zero_le _, fun p hp => by cases hp⟩
 ·split
  ·exact ⟨by have := h1.1; show (paramsP _).length ≤ _; omega, h1.2⟩
  ·exact ⟨Nat.zero_le _, fun p hp => by cases hp⟩
theorem restG_lenN {N : Nat} {ones : List One1} (h : ∀ x ∈ ones, x.value.length ≤ N ∧ x.at_.name.length ≤ N) (name : List UInt8) : ∀ (f : Nat) (k : Int), (restG ones name f k).length ≤ f * N
 | 0, k => by simp [restG]
 | f + 1, k => by
  unfold restG
  rw [Nat.succ_mul]
  split
  ·simp
  ·rename_i x hx
   have h1 := (h x (first_mem hx)).1
   have h2 := restG_lenN h name f (k + 1)
   have h3 := openP_len _ x.value (Nat.le_refl _)
   rw [List.length_append]
   split <;> omega
theorem valueP_lenN {N : Nat} {ones : List One1} (h : ∀ x ∈ ones, x.value.length ≤ N ∧ x.at_.name.length ≤ N) (name : List UInt8) {v : List UInt8} (hv : valueP ones name = some v) : v.length ≤ 256 * N := by
 unfold valueP at hv
 split at hv
 ·split at hv
  ·rename_i x hx
   injection hv with hv
   rw [← hv]
   have h1 := (h x (List.mem_of_find?_eq_some hx)).1
   have h2 := splitP_len x.value
   have h3 := openP_len _ (splitP x.value).2 (Nat.le_refl _)
   have h4 := meantP_len (splitP x.value).1 (openP (splitP x.value).2)
   omega
  ·obtain ⟨x, hx, rfl⟩ := Option.map_eq_some_iff.1 hv
   have h1 := (h x (first_mem hx)).1
   omega
 ·rename_i x hx
  have h1 := (h x (first_mem hx)).1
  have h2 := splitP_len x.value
  have h3 := openP_len _ (splitP x.value).2 (Nat.le_refl _)
  have h5 := restG_lenN h name 63 1
  split at hv
  ·injection hv with hv
   rw [← hv]
   have h4 := meantP_len (splitP x.value).1 (openP (splitP x.value).2 ++ restG ones name 63 1)
   rw [List.length_append] at h4
   omega
  ·injection hv with hv
   rw [← hv, List.length_append]
   omega
theorem onesP_lenN {N : Nat} {rs : List (List Tok)} (h : ∀ r ∈ rs, (joinP r).length ≤ N) : ∀ x ∈ onesP rs, x.value.length ≤ N ∧ x.at_.name.length ≤ N := by
 intro o ho
 unfold onesP at ho
 obtain ⟨q, hq, he⟩ := List.mem_filterMap.1 ho
 obtain ⟨r, hr, rfl⟩ := List.mem_map.1 hq
 split at he
 ·cases he
 ·injection he with he
  subst he
  have h1 := pairP_len r
  have h2 := h r hr
  have h3 := whereP_len (pairP r).1
  exact ⟨by show (pairP r).2.length ≤ _; omega, by show (whereP (pairP r).1).name.length ≤ _; omega⟩
theorem params_lenN {N : Nat} {rs : List (List Tok)} (h : ∀ r ∈ rs, (joinP r).length ≤ N) : (paramsP rs).length ≤ rs.length ∧ ∀ p ∈ paramsP rs, p.1.length ≤ N ∧ p.2.length ≤ 256 * N := by
 have h2 := onesP_len rs
 constructor
 ·unfold paramsP
  refine Nat.le_trans (List.length_filterMap_le _ _) ?_
  have h1 := namesP_len (onesP rs) []
  simp only [List.length_nil] at h1
  unfold namesP
  omega
 ·intro p hp
  unfold paramsP at hp
  obtain ⟨n, hn, he⟩ := List.mem_filterMap.1 hp
  obtain ⟨v, hv, rfl⟩ := Option.map_eq_some_iff.1 he
  refine ⟨?_, valueP_lenN (onesP_lenN h) n hv⟩
  rcases namesP_mem (onesP rs) [] n hn with h2 | ⟨o, ho, rfl⟩
  ·cases h2
  ·exact (onesP_lenN h o ho).2
theorem disp_lenN (l : List UInt8) : (dispT l).2.length ≤ l.length ∧ ∀ p ∈ (dispT l).2, p.1.length ≤ l.length ∧ p.2.length ≤ 256 * l.length := by
 have h := tokRows_ok l
 have h3 : ((tokRows l).drop 1).length ≤ l.length := by rw [List.length_drop]; have := h.2; omega
 have h1 := params_lenN (rs := (tokRows l).drop 1) (fun r hr => (h.1 r (List.mem_of_mem_drop hr)).1)
 exact ⟨by have := h1.1; show (paramsP _).length ≤ _; omega, h1.2⟩
theorem paramT_lenN {ps : List (List UInt8 × List UInt8)} {n : List UInt8} {N : Nat} (h : ∀ q ∈ ps, q.2.length ≤ N) : ((paramT ps n).getD []).length ≤ N := by
 unfold paramT
 cases hf : ps.find? fun p => decide (smallP p.1 = smallP n) with
 | none => exact Nat.zero_le _
 | some x => exact h x (List.mem_of_find?_eq_some hf)
end Go.Proofs.YthidbmeaccpjdaaGreatDoor
