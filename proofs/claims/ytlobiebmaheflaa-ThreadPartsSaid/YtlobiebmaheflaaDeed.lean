/- Operations that came in, as a list; contracts of few and do. -/
import Derived.Test.YtlobiebmaheflaaCopy
import Derived.Test.YtlobiebmaheflaaRAll
namespace Go.Proofs.Ytlobiebmaheflaa
open Go.RowKit
set_option linter.unusedVariables false

/-- One operation of a law. -/
structure Deed where
  do_ : Int
  id : Int
  own : ByteArray
  refs : List ByteArray
  base : ByteArray
/-- The bounds that a deed of Go keeps. -/
def Deed.Fit (a : Deed) : Prop := I64 a.do_ ∧ I64 a.id ∧ Fits a.own ∧ Fits a.base
/-- The slice of a deed's references. -/
def RefsIn (w : World) (B : Nat) (RA : Option Addr) (rn rc : Nat) (l : List ByteArray) : Prop := Strs w B RA rn l ∧ rn ≤ rc ∧ rc ≤ maxLen ∧ (RA = none → rc = 0)
/-- 'A' with 'n' places reads as the deeds 'l'. -/
def Deeds (w : World) (B : Nat) (A : Option Addr) (n : Nat) (l : List Deed) : Prop :=
  n = l.length ∧ ∀ k (hk : k < l.length), ∃ ad RA rn rc, A = some ad ∧ (ad.add (k * 5)).block < B ∧ l[k].Fit ∧ w.cell? (ad.add (k * 5)) = some (.int .i64 l[k].do_) ∧
    w.cell? ⟨(ad.add (k * 5)).block, (ad.add (k * 5)).off + 1, none⟩ = some (.int .i64 l[k].id) ∧ w.cell? ⟨(ad.add (k * 5)).block, (ad.add (k * 5)).off + 2, none⟩ = some (.string l[k].own) ∧
    w.cell? ⟨(ad.add (k * 5)).block, (ad.add (k * 5)).off + 3, none⟩ = some (.slice RA rn rc) ∧ w.cell? ⟨(ad.add (k * 5)).block, (ad.add (k * 5)).off + 4, none⟩ = some (.string l[k].base) ∧ RefsIn w B RA rn rc l[k].refs
theorem RefsIn.below {w w' : World} {B : Nat} {RA : Option Addr} {rn rc : Nat} {l : List ByteArray} (h : RefsIn w B RA rn rc l) (hb : Below B w w') : RefsIn w' B RA rn rc l := ⟨h.1.below hb, h.2⟩
theorem RefsIn.more {w : World} {B B' : Nat} {RA : Option Addr} {rn rc : Nat} {l : List ByteArray} (h : RefsIn w B RA rn rc l) (hB : B ≤ B') : RefsIn w B' RA rn rc l := ⟨h.1.more hB, h.2⟩
theorem Deeds.below {w w' : World} {B n : Nat} {A : Option Addr} {l : List Deed} (h : Deeds w B A n l) (hb : Below B w w') : Deeds w' B A n l := by
  refine ⟨h.1, fun k hk => ?_⟩
  obtain ⟨ad, RA, rn, rc, e, h1, h2, h3, h4, h5, h6, h7, h8⟩ := h.2 k hk
  exact ⟨ad, RA, rn, rc, e, h1, h2, (hb.cell h1).trans h3, (hb.cell (p := ⟨(ad.add (k * 5)).block, _, none⟩) h1).trans h4, (hb.cell (p := ⟨(ad.add (k * 5)).block, _, none⟩) h1).trans h5, (hb.cell (p := ⟨(ad.add (k * 5)).block, _, none⟩) h1).trans h6, (hb.cell (p := ⟨(ad.add (k * 5)).block, _, none⟩) h1).trans h7, h8.below hb⟩

/-- Few operations, each with few references. -/
def FewDeeds (l : List Deed) : Prop := l.length ≤ 40 ∧ ∀ a, a ∈ l → a.refs.length ≤ 8
def FewPost (w : World) (l : List Deed) (e : Ending) (w' : World) : Prop := ∃ b : Bool, e = .returned (.bool b) ∧ (b = true → FewDeeds l) ∧ w = w'
set_option maxHeartbeats 1000000 in
theorem few_any (A : Option Addr) (n c : Nat) (l : List Deed) (w : World) (h : Deeds w w.heap.size A n l) (hn : n ≤ c) (hc : c ≤ maxLen) :
    Calls Try.prog 10 #[.slice A n c] w (FewPost w l) := by
  unfold maxLen at hc
  have HN := Lib.hid h.1
  have H := Lib.hid h
  clear h
  go_enter Try.func10, Try.ntmps10
  go_wp2
  go_loop [3] (fun i => ∃ k : Nat, k ≤ n ∧ k ≤ 50 ∧ i = .int .i64 (k : Int) ∧ Hid (∀ t (ht : t < l.length), t < k → l[t].refs.length ≤ 8)) (fun i => 50 - (intOf i).toNat)
  case atStart => exact ⟨0, Nat.zero_le _, by omega, rfl, fun t _ ht => absurd ht (by omega)⟩
  case round =>
    obtain ⟨k, hk, hk50, rfl, hall⟩ := hrel
    by_cases hlt : k < n
    · have hk2 : (k : Int) < n := by omega
      by_cases h50 : k < 50
      · have hk3 : (k : Int) < 50 := by omega
        have hkl : k < l.length := by rw [← HN.out]; exact hlt
        obtain ⟨ad, RA, rn, rc, rfl, hbl, -, -, -, -, h3, -, hr⟩ := H.out.2 k hkl
        have hrl := hr.1.1
        have HR := Lib.hid hrl
        clear hr hrl hbl
        by_cases h8 : rn ≤ 8
        · have hd : decide ((8 : Int) < rn) = false := by simp; omega
          go_wp2
          go_round
          case rel =>
            refine ⟨k + 1, by omega, by omega, by go_num, fun t ht htk => ?_⟩
            by_cases e : t = k
            · subst e; rw [← HR.out]; exact h8
            · exact hall.out t ht (by omega)
          case measure => simp [intOf] <;> omega
        · have hd : decide ((8 : Int) < rn) = true := by simp; omega
          go_wp2
          go_ret
          exact ⟨false, rfl, fun h => (by cases h), rfl⟩
      · have hd : decide ((k : Int) < 50) = false := by simp; omega
        have hd2 : decide ((n : Int) ≤ 40) = false := by simp; omega
        go_wp2
        go_ret
        exact ⟨false, rfl, fun h => (by cases h), rfl⟩
    · obtain rfl : k = n := by omega
      have hd : decide ((k : Int) < k) = false := by simp
      go_wp2
      go_ret
      refine ⟨decide ((k : Int) ≤ 40), rfl, fun h => ⟨?_, fun a ha => ?_⟩, rfl⟩
      · have := of_decide_eq_true h
        rw [← HN.out]; omega
      · obtain ⟨t, ht, rfl⟩ := List.getElem_of_mem ha
        exact hall.out t ht (by rw [HN.out]; exact ht)

/-- What an operation does to the messages, and what it answers. -/
noncomputable def stepL (L : List Msg) (a : Deed) : List Msg := if a.do_ = 1 then del a.id L else addL L ⟨a.id, idsOf a.own a.refs, a.base⟩
noncomputable def stepErr (L : List Msg) (a : Deed) : Int := if a.do_ = 1 then 0 else addErr L a.id
open Classical in
noncomputable def stepOk (L : List Msg) (a : Deed) : Bool := if a.do_ = 1 then decide (∃ m, m ∈ L ∧ m.id = a.id) else true
def DoPost (w : World) (tag : Nat → Tag) (hd : Nat) (L : List Msg) (c : Nat) (a : Deed) (e : Ending) (w' : World) : Prop :=
  e = .returned (.tuple #[.int .i64 (stepErr L a), .bool (stepOk L a)]) ∧ ∃ tag', Th w' tag' hd (stepL L a) (c + 900) ∧ Off (Mut tag) w w' ∧ Grows w tag tag'
set_option maxHeartbeats 1000000 in
theorem do_any (a : Deed) (RA : Option Addr) (rn rc : Nat) (w : World) {tag : Nat → Tag} {hd : Nat} {L : List Msg} {c : Nat} (h : Th w tag hd L c) (hfit : a.Fit) (hr : RefsIn w w.heap.size RA rn rc a.refs) (h8 : a.refs.length ≤ 8) (hL : L.length ≤ 100) (hc : c ≤ 50000) :
    Calls Try.prog 11 #[.pointer (some ⟨hd, 0, none⟩), .agg #[.int .i64 a.do_, .int .i64 a.id, .string a.own, .slice RA rn rc, .string a.base]] w (DoPost w tag hd L c a) := by
  obtain ⟨d, id, own, refs, base⟩ := a
  obtain ⟨hfd, hfi, hfo, hfb⟩ := hfit
  dsimp only at *
  have hW1 : Below w.heap.size w (w.alloc (.cells #[.int .i64 d, .int .i64 id, .string own, .slice RA rn rc, .string base] 34)) := (Below.refl _ _).alloc (Nat.le_refl _) _
  have hT := h.off (.of_below hW1 (F := fun b => w.heap.size ≤ b) fun _ _ h => h) h.fresh
  have hr1 := (hr.below hW1).more hW1.size
  have HT := Lib.hid hT
  have HW1 := Lib.hid hW1
  have HR1 := Lib.hid hr1
  have hrn : rn ≤ 8 := by rw [hr.1.1]; exact h8
  have HL := Lib.hid hL
  have HFO := Lib.hid hfo
  have HFB := Lib.hid hfb
  have HFI := Lib.hid hfi
  have HF := Lib.hid h.fresh
  clear h hr hW1 hT hr1 hL hfo hfb hfi
  have hoff : ∀ w', Off (Mut tag) (w.alloc (.cells #[.int .i64 d, .int .i64 id, .string own, .slice RA rn rc, .string base] 34)) w' → Off (Mut tag) w w' := fun _ h => (Off.refl _ w).alloc _ |>.trans h
  have hgrow : ∀ tag' : Nat → Tag, Grows (w.alloc (.cells #[.int .i64 d, .int .i64 id, .string own, .slice RA rn rc, .string base] 34)) tag tag' → Grows w tag tag' := fun _ h b hb => h b (by simp; omega)
  have HOFF := Lib.hid hoff
  have HGR := Lib.hid hgrow
  clear hoff hgrow
  by_cases h1 : d = 1
  · subst h1
    go_enter Try.func11, Try.ntmps11
    go_wp2_with fail
    refine (drop_any id _ HT.out HL.out HFI.out (by omega)).mono ?_
    rintro e w1 ⟨b, rfl, hb, tag', hth, hO, hG⟩
    have HB := Lib.hid hb
    have HTH := Lib.hid hth
    have HO := Lib.hid hO
    have HG := Lib.hid hG
    clear hb hth hO hG
    go_wp2
    go_ret2
    refine ⟨?_, tag', ?_, HOFF.out _ HO.out, HGR.out _ HG.out⟩
    · have e1 : stepErr L ⟨1, id, own, refs, base⟩ = 0 := by unfold stepErr; simp
      have e2 : stepOk L ⟨1, id, own, refs, base⟩ = b := by
        unfold stepOk
        rw [if_pos rfl]
        cases b
        · exact decide_eq_false fun h => Bool.noConfusion (HB.out.2 h)
        · exact decide_eq_true (HB.out.1 rfl)
      rw [e1, e2]; rfl
    · have : stepL L ⟨1, id, own, refs, base⟩ = del id L := by unfold stepL; simp
      rw [this]; exact HTH.out
  · have hd1 : (d == 1) = false := by simpa using h1
    have H1 := Lib.hid h1
    clear h1
    go_enter Try.func11, Try.ntmps11
    go_wp2_with fail
    refine (add_any id own base refs RA rn rc _ HT.out HFI.out HR1.out.1 hrn HR1.out.2.1 HR1.out.2.2.2 HR1.out.2.2.1 HFO.out HFB.out HL.out hc).mono ?_
    rintro e w1 ⟨rfl, tag', hth, hO, hG⟩
    have HTH := Lib.hid hth
    have HO := Lib.hid hO
    have HG := Lib.hid hG
    clear hth hO hG
    go_wp2
    go_ret2
    refine ⟨?_, tag', ?_, HOFF.out _ HO.out, HGR.out _ HG.out⟩
    · have e1 : stepErr L ⟨d, id, own, refs, base⟩ = addErr L id := by unfold stepErr; rw [if_neg H1.out]
      have e2 : stepOk L ⟨d, id, own, refs, base⟩ = true := by unfold stepOk; rw [if_neg H1.out]
      rw [e1, e2]; rfl
    · have : stepL L ⟨d, id, own, refs, base⟩ = addL L ⟨id, idsOf own refs, base⟩ := by unfold stepL; rw [if_neg H1.out]
      rw [this]; exact HTH.out.mono (by omega)
end Go.Proofs.Ytlobiebmaheflaa
