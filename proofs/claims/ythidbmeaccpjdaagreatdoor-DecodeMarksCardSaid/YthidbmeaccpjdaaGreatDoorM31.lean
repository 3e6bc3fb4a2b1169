/- Layer 9: the contract of field. Layer 14: the iterator of lines: its contract. Layer 15: the contract of Bytes (a part's content). Layer 6: the contracts of seen and escape (quoted-printable). -/
import Derived.RangeFuncNested
import Derived.RangeFuncBound
import Derived.RangeFuncCalls
import Derived.RangeFuncLeaves
import Derived.Shelf.Abstract
import Derived.Shelf.RegionOpen
import Derived.WalkKit
import Derived.OwnWalkIn
import Derived.TacticsInMore
import Derived.LoopNIn
import Derived.LoopIn
import Derived.Test.YthidbmeaccpjdaaGreatDoorM15
import Derived.Test.YthidbmeaccpjdaaGreatDoorM30
import Derived.Test.YthidbmeaccpjdaaGreatDoorM08
import Derived.Test.YthidbmeaccpjdaaGreatDoorM18
import Derived.Test.YthidbmeaccpjdaaGreatDoorM02
import Derived.Test.YthidbmeaccpjdaaGreatDoorM07
import Derived.Test.YthidbmeaccpjdaaGreatDoorM14
import Derived.Test.YthidbmeaccpjdaaGreatDoorM29
import Derived.Test.YthidbmeaccpjdaaGreatDoorM22
import Derived.Test.YthidbmeaccpjdaaGreatDoorM20
import Derived.Test.YthidbmeaccpjdaaGreatDoorM28
import Derived.Test.YthidbmeaccpjdaaGreatDoorM09
import Derived.Test.YthidbmeaccpjdaaGreatDoorM19
import Derived.Test.YthidbmeaccpjdaaGreatDoorM11
import Derived.Test.YthidbmeaccpjdaaGreatDoorM04
namespace Go.Proofs.YthidbmeaccpjdaaGreatDoor
open Go.RowKit
set_option linter.unusedVariables false
set_option maxHeartbeats 4000000
def fldV (f : Fld) : Value := .agg #[.string (ba f.name), .string (ba f.value), .string (ba f.raw), .bool f.bad]
def FldPost (w : World) (f : Fld) (e : Ending) (w' : World) : Prop := e = .returned (fldV f) ∧ Below w.heap.size w w'
theorem fld_fin {w w' : World} {f : Fld} {n v r : List UInt8} {b : Bool} (h : f = ⟨n, v, r, b⟩) (hb : Below w.heap.size w w') : FldPost w f (.returned (.agg #[.string (ba n), .string (ba v), .string (ba r), .bool b])) w' := by
 subst h
 exact ⟨rfl, hb⟩
theorem trimR_len (l : List UInt8) : (Lib.trimRightS l blanksP).length ≤ l.length := by
 unfold Lib.trimRightS
 rw [List.length_reverse]
 refine Nat.le_trans (List.dropWhile_suffix _).length_le ?_
 rw [List.length_reverse]
 exact Nat.le_refl _
theorem fldP_none {l g : List UInt8} (h : nudeP (l.take (endP l)) = g) (h2 : cutP 58 g = none) : fldP l = ⟨[], [], l, true⟩ := by
 subst h
 unfold fldP
 rw [h2]
theorem fldP_some {l g a b : List UInt8} (h : nudeP (l.take (endP l)) = g) (h2 : cutP 58 g = some (a, b)) : fldP l = if nameOk (Lib.trimRightS a blanksP) = true then ⟨Lib.trimRightS a blanksP, nudeP (l.drop (a.length + 1)), l, false⟩ else ⟨[], [], l, true⟩ := by
 subst h
 unfold fldP
 rw [h2]
set_option maxRecDepth 100000 in
theorem hfield_any (l : List UInt8) (w : World) (hl : l.length ≤ 1000000000) (hT : Tabs w) :
  Calls Tryz.prog 149 #[.string (ba l)] w (FldPost w (fldP l)) := by
 have hB0 := (Below.refl w.heap.size w).alloc (Nat.le_refl _) (.cells #[.string ⟨#[]⟩, .string ⟨#[]⟩, .string ⟨#[]⟩, .bool false] 162)
 have HB0 := Lib.hid hB0
 have HT := Lib.hid hT
 have hle := endP_le l
 have HE := Lib.hid (fun W => hend_any l W hl)
 obtain ⟨g, hg⟩ : ∃ g, nudeP (l.take (endP l)) = g := ⟨_, rfl⟩
 have HBA := Lib.hid (fun W => hbare_any (l.take (endP l)) W (by rw [List.length_take]; omega))
 rw [hg] at HBA
 have hgl : g.length ≤ l.length := by rw [← hg]; have := nudeP_len (l.take (endP l)); rw [List.length_take] at this; omega
 have HFN := Lib.hid (fun h => fldP_none hg h)
 have HFS := Lib.hid (fun a b h => fldP_some (a := a) (b := b) hg h)
 have hx : (ba l).extract 0 (endP l) = ba (l.take (endP l)) := by rw [ba_cut, List.drop_zero]
 have HX := Lib.hid hx
 obtain ⟨m, hm⟩ : ∃ m, endP l = m := ⟨_, rfl⟩
 rw [hm] at HX HBA hle
 simp only [hm] at HE
 obtain ⟨f, hf⟩ : ∃ f, l.take m = f := ⟨_, rfl⟩
 rw [hf] at HX HBA
 have hsz : ((ba l).size : Int) = (l.length : Nat) := by rw [ba_size]
 have hmi : (m : Int) ≤ (l.length : Nat) := by omega
 have hm0 : (0 : Int) ≤ (m : Int) := by omega
 have HLL := Lib.hid hl
 have HGL := Lib.hid hgl
 clear hg hx hm hf hT hB0
 cases hcp : cutP 58 g with
 | none =>
  have HF := Lib.hid (HFN.out hcp)
  have hcv : cutV 58 g = (g, [], false) := by unfold cutV; rw [hcp]
  have HCU := Lib.hid (fun W hW => cut_any 58 g W (by have := HLL.out; have := HGL.out; omega) hW)
  unfold CutPost at HCU
  rw [hcv] at HCU
  have HTR := Lib.hid (fun W => htrimR_any g W (by have := HLL.out; have := HGL.out; omega))
  have hgi : (g.length : Int) ≤ 1000000000 := by have := HLL.out; have := HGL.out; omega
  have hgz : ((ba g).size : Int) = (g.length : Nat) := by rw [ba_size]
  clear hcp hcv hl hgl
  go_enter Tryz.func149, Tryz.ntmps149
  go_wp2_with fail
  refine (HE.out _).mono ?_
  rintro e w2 ⟨rfl, rfl⟩
  go_wp2_with fail
  rw [HX.out]
  refine (HBA.out _).mono ?_
  rintro e w2 ⟨rfl, rfl⟩
  go_wp2_with fail
  refine (HCU.out _ (HT.out.below HB0.out)).mono ?_
  rintro e w2 ⟨rfl, nn, rfl⟩
  go_wp2_with fail
  refine (HTR.out _).mono ?_
  rintro e w3 ⟨rfl, hb3⟩
  have hbk : w3.heap[w.heap.size]? = some (.cells #[.string ⟨#[]⟩, .string ⟨#[]⟩, .string ⟨#[]⟩, .bool false] 162) := (hb3.block w.heap.size (by simp)).trans (((below_drewN (Below.refl (w.alloc (.cells #[.string ⟨#[]⟩, .string ⟨#[]⟩, .string ⟨#[]⟩, .bool false] 162)).heap.size (w.alloc (.cells #[.string ⟨#[]⟩, .string ⟨#[]⟩, .string ⟨#[]⟩, .bool false] 162))) nn).block w.heap.size (by simp)).trans (MapKept.heap_alloc w _).1)
  have HB3 := Lib.hid ((below_drewN HB0.out nn).trans (hb3.mono (by simp)))
  have p0 := cells_at hbk 0 (u := .string ⟨#[]⟩) rfl
  have p1 := cells_at hbk 1 (u := .string ⟨#[]⟩) rfl
  have p2 := cells_at hbk 2 (u := .string ⟨#[]⟩) rfl
  have p3 := cells_at hbk 3 (u := .bool false) rfl
  have q0 := cells_free hbk 0
  have q1 := cells_free hbk 1
  have q2 := cells_free hbk 2
  have q3 := cells_free hbk 3
  clear hb3 hbk
  go_wp2
  refine bodyPost_ret (v := .agg #[.string (ba []), .string (ba []), .string (ba l), .bool true]) (by simp [results, Tryz.results149, go_sem, p0, p1, p2, p3]; try rfl) rfl ?_
  refine fld_fin HF.out ?_
  repeat (first | with_reducible exact HB3.out | refine Below.setCell ?_ (by simp) _)
 | some q =>
  obtain ⟨a, b⟩ := q
  have HF0 := Lib.hid (HFS.out a b hcp)
  have hcv : cutV 58 g = (a, b, true) := by unfold cutV; rw [hcp]
  have hga := (cutP_some hcp).1
  have hal : a.length + 1 ≤ g.length := by rw [hga]; simp
  have HCU := Lib.hid (fun W hW => cut_any 58 g W (by have := HLL.out; have := HGL.out; omega) hW)
  unfold CutPost at HCU
  rw [hcv] at HCU
  have HTR := Lib.hid (fun W => htrimR_any a W (by have := HLL.out; have := HGL.out; omega))
  have htl := trimR_len a
  obtain ⟨t, ht⟩ : ∃ t, Lib.trimRightS a blanksP = t := ⟨_, rfl⟩
  rw [ht] at HTR HF0 htl
  have HRI := Lib.hid (fun W => hright_any t W (by have := HLL.out; have := HGL.out; omega))
  have HB2 := Lib.hid (fun W => hbare_any (l.drop (a.length + 1)) W (by rw [List.length_drop]; have := HLL.out; omega))
  have hx2 : (ba l).extract (a.length + 1) (ba l).size = ba (l.drop (a.length + 1)) := ba_drop l _
  have haz : ((ba a).size : Int) = (a.length : Nat) := by rw [ba_size]
  obtain ⟨A, hA⟩ : ∃ A, a.length = A := ⟨_, rfl⟩
  rw [hA] at hal hx2 HF0 HB2 haz
  obtain ⟨dr, hdr⟩ : ∃ d, l.drop (A + 1) = d := ⟨_, rfl⟩
  rw [hdr] at hx2 HF0 HB2
  have HX2 := Lib.hid hx2
  have hA1 : (A : Int) + 1 ≤ (l.length : Nat) := by have := HGL.out; omega
  have hA2 : (A : Int) ≤ 1000000000 := by have := HLL.out; have := HGL.out; omega
  have hA0 : (0 : Int) ≤ (A : Int) := by omega
  clear hcp hcv hga hal htl ht hx2 hA hdr hl hgl
  cases hok : nameOk t with
  | true =>
   rw [hok] at HRI HF0
   have HF := Lib.hid (show fldP l = ⟨t, nudeP dr, l, false⟩ by rw [HF0.out]; rfl)
   clear hok
   go_enter Tryz.func149, Tryz.ntmps149
   go_wp2_with fail
   refine (HE.out _).mono ?_
   rintro e w2 ⟨rfl, rfl⟩
   go_wp2_with fail
   rw [HX.out]
   refine (HBA.out _).mono ?_
   rintro e w2 ⟨rfl, rfl⟩
   go_wp2_with fail
   refine (HCU.out _ (HT.out.below HB0.out)).mono ?_
   rintro e w2 ⟨rfl, nn, rfl⟩
   go_wp2_with fail
   refine (HTR.out _).mono ?_
   rintro e w3 ⟨rfl, hb3⟩
   have hbk : w3.heap[w.heap.size]? = some (.cells #[.string ⟨#[]⟩, .string ⟨#[]⟩, .string ⟨#[]⟩, .bool false] 162) := (hb3.block w.heap.size (by simp)).trans (((below_drewN (Below.refl (w.alloc (.cells #[.string ⟨#[]⟩, .string ⟨#[]⟩, .string ⟨#[]⟩, .bool false] 162)).heap.size (w.alloc (.cells #[.string ⟨#[]⟩, .string ⟨#[]⟩, .string ⟨#[]⟩, .bool false] 162))) nn).block w.heap.size (by simp)).trans (MapKept.heap_alloc w _).1)
   have HB3 := Lib.hid ((below_drewN HB0.out nn).trans (hb3.mono (by simp)))
   have p0 := cells_at hbk 0 (u := .string ⟨#[]⟩) rfl
   have p1 := cells_at hbk 1 (u := .string ⟨#[]⟩) rfl
   have p2 := cells_at hbk 2 (u := .string ⟨#[]⟩) rfl
   have p3 := cells_at hbk 3 (u := .bool false) rfl
   have q0 := cells_free hbk 0
   have q1 := cells_free hbk 1
   have q2 := cells_free hbk 2
   have q3 := cells_free hbk 3
   clear hb3 hbk
   go_wp2_with fail
   refine (HRI.out _).mono ?_
   rintro e w4 ⟨rfl, hw⟩
   have hw2 := hw.symm
   subst hw2
   clear hw
   go_wp2_with fail
   rw [HX2.out]
   refine (HB2.out _).mono ?_
   rintro e w4 ⟨rfl, hw⟩
   have hw2 := hw.symm
   subst hw2
   clear hw
   go_wp2
   refine bodyPost_ret (v := .agg #[.string (ba t), .string (ba (nudeP dr)), .string (ba l), .bool false]) (by simp [results, Tryz.results149, go_sem, p0, p1, p2, p3]; try rfl) rfl ?_
   refine fld_fin HF.out ?_
   repeat (first | with_reducible exact HB3.out | refine Below.setCell ?_ (by simp) _)
  | false =>
   rw [hok] at HRI HF0
   have HF := Lib.hid (show fldP l = ⟨[], [], l, true⟩ by rw [HF0.out]; rfl)
   clear hok
   go_enter Tryz.func149, Tryz.ntmps149
   go_wp2_with fail
   refine (HE.out _).mono ?_
   rintro e w2 ⟨rfl, rfl⟩
   go_wp2_with fail
   rw [HX.out]
   refine (HBA.out _).mono ?_
   rintro e w2 ⟨rfl, rfl⟩
   go_wp2_with fail
   refine (HCU.out _ (HT.out.below HB0.out)).mono ?_
   rintro e w2 ⟨rfl, nn, rfl⟩
   go_wp2_with fail
   refine (HTR.out _).mono ?_
   rintro e w3 ⟨rfl, hb3⟩
   have hbk : w3.heap[w.heap.size]? = some (.cells #[.string ⟨#[]⟩, .string ⟨#[]⟩, .string ⟨#[]⟩, .bool false] 162) := (hb3.block w.heap.size (by simp)).trans (((below_drewN (Below.refl (w.alloc (.cells #[.string ⟨#[]⟩, .string ⟨#[]⟩, .string ⟨#[]⟩, .bool false] 162)).heap.size (w.alloc (.cells #[.string ⟨#[]⟩, .string ⟨#[]⟩, .string ⟨#[]⟩, .bool false] 162))) nn).block w.heap.size (by simp)).trans (MapKept.heap_alloc w _).1)
   have HB3 := Lib.hid ((below_drewN HB0.out nn).trans (hb3.mono (by simp)))
   have p0 := cells_at hbk 0 (u := .string ⟨#[]⟩) rfl
   have p1 := cells_at hbk 1 (u := .string ⟨#[]⟩) rfl
   have p2 := cells_at hbk 2 (u := .string ⟨#[]⟩) rfl
   have p3 := cells_at hbk 3 (u := .bool false) rfl
   have q0 := cells_free hbk 0
   have q1 := cells_free hbk 1
   have q2 := cells_free hbk 2
   have q3 := cells_free hbk 3
   clear hb3 hbk
   go_wp2_with fail
   refine (HRI.out _).mono ?_
   rintro e w4 ⟨rfl, hw⟩
   have hw2 := hw.symm
   subst hw2
   clear hw
   go_wp2
   refine bodyPost_ret (v := .agg #[.string (ba []), .string (ba []), .string (ba l), .bool true]) (by simp [results, Tryz.results149, go_sem, p0, p1, p2, p3]; try rfl) rfl ?_
   refine fld_fin HF.out ?_
   repeat (first | with_reducible exact HB3.out | refine Below.setCell ?_ (by simp) _)
end Go.Proofs.YthidbmeaccpjdaaGreatDoor
section
namespace Go.Proofs.YthidbmeaccpjdaaGreatDoor
open Go.RowKit
set_option linter.unusedVariables false
open Go.Shelf
attribute [local go_sem] Oper.semAt_some
def lnR : List (List UInt8) → Nat → List (Nat × Nat)
 | [], _ => []
 | l :: r, a => (a, a + l.length) :: lnR r (a + l.length)
def lnsP (s : List UInt8) (i : Nat) : List (Nat × Nat) := lnR (linesP (s.drop i)) i
theorem lns_end {s : List UInt8} {i : Nat} (h : i < s.length) : lnsP s i = (i, i + endP (s.drop i)) :: lnsP s (i + endP (s.drop i)) := by
 have hne : s.drop i ≠ [] := fun e => by have := congrArg List.length e; rw [List.length_drop] at this; simp at this; omega
 have h1 := endP_le (s.drop i)
 unfold lnsP
 rw [linesP_end hne]
 unfold lnR
 rw [List.length_take, Nat.min_eq_left h1, List.drop_drop]
 cases linesP (List.drop (i + endP (List.drop i s)) s) <;> rfl
theorem lns_nil {s : List UInt8} {i : Nat} (h : s.length ≤ i) : lnsP s i = [] := by
 unfold lnsP
 rw [List.drop_eq_nil_of_le h]
 rfl
def keeps2 (a b : Nat) (A B : World) : Prop := B.heap[a]? = A.heap[a]? ∧ B.heap[b]? = A.heap[b]?
def setsC (a : Nat) (A B : World) : Prop := ∃ v, B = A.setCell ⟨a, 0, none⟩ v
theorem keeps2.sets {a b c : Nat} {A B : World} (h : setsC c A B) (h1 : a ≠ c) (h2 : b ≠ c) : keeps2 a b A B := by
 obtain ⟨v, rfl⟩ := h
 exact ⟨Go.RowKit.Below.heap_setCell _ _ _ _ h1, Go.RowKit.Below.heap_setCell _ _ _ _ h2⟩
structure LnSt (s : List UInt8) (bf bs i : Nat) (J : List (Nat × Nat) → World → Prop) (k : Nat) (pre : List (Nat × Nat)) (W : World) : Prop where
 eq : pre ++ lnsP s k = lnsP s i
 le : k ≤ s.length
 j : J pre W
 hf : W.heap[bf]? = some (.cells #[.int .i64 (k : Int)] 3 (0, 0))
 hs : W.heap[bs]? = some (.cells #[.string (ba s)] 9 (0, 0))
theorem LnSt.next {s : List UInt8} {bf bs i : Nat} {J : List (Nat × Nat) → World → Prop} {k : Nat} {pre : List (Nat × Nat)} {W W' : World} (h : LnSt s bf bs i J k pre W) (hne : bf ≠ bs) (hJ : ∀ s A B, J s A → setsC bf A B → J s B)
  (hk : keeps2 bf bs W W') {t : Nat} (ht : k + endP (s.drop k) = t) (hl : k < s.length) (hj : J (pre ++ [(k, t)]) W') : LnSt s bf bs i J t (pre ++ [(k, t)]) (W'.setCell ⟨bf, 0, none⟩ (.int .i64 (t : Int))) := by
 subst ht
 refine ⟨?_, ?_, hJ _ _ _ hj ⟨_, rfl⟩, ?_, ?_⟩
 ·rw [List.append_assoc, ← h.eq, lns_end hl]
  rfl
 ·have := endP_le (s.drop k)
  rw [List.length_drop] at this
  omega
 ·exact Lib.heap_setCell_same (i := 0) (hk.1.trans h.hf) _
 ·exact (Go.RowKit.Below.heap_setCell _ _ _ _ (fun e => hne e.symm)).trans (hk.2.trans h.hs)
set_option maxRecDepth 100000 in
set_option maxHeartbeats 4000000 in
theorem lines1_in (l bf bs i : Nat) (s : List UInt8) (J Jx : List (Nat × Nat) → World → Prop) (hl : s.length ≤ 1000000000) (hi : i ≤ s.length) (hne : bf ≠ bs) (hJ : ∀ s A B, J s A → setsC bf A B → J s B)
  (hY : ∀ pre x W, J pre W → pre.length < (lnsP s i).length → x.1 ≤ x.2 → x.2 ≤ s.length → YieldAt Fence.wide 7 Tryz.prog l #[.int .i64 (x.1 : Nat), .int .i64 (x.2 : Nat)] W fun e W' =>
   (e = .returned (.bool true) ∧ J (pre ++ [x]) W' ∧ keeps2 bf bs W W') ∨ (e = .returned (.bool false) ∧ Jx (pre ++ [x]) W'))
  (W : World) (hf : W.heap[bf]? = some (.cells #[.int .i64 (i : Int)] 3 (0, 0))) (hs : W.heap[bs]? = some (.cells #[.string (ba s)] 9 (0, 0))) (h0 : J [] W) :
  CallsIn Fence.wide 8 Tryz.prog 193 #[.func (.yield l) #[] #[], .pointer (some ⟨bf, 0, none⟩), .pointer (some ⟨bs, 0, none⟩)] W fun e W' => (∃ v, e = .returned v) ∧
   ((∃ ys, ys = lnsP s i ∧ J ys W') ∨ (∃ pre, pre <+: lnsP s i ∧ Jx pre W')) := by
 have HY := Lib.hid hY
 have HJ := Lib.hid hJ
 have HNE := Lib.hid hne
 have H0 := Lib.hid (show LnSt s bf bs i J i [] W from ⟨rfl, hi, h0, hf, hs⟩)
 clear hY hJ h0 hf hs hi hne
 refine callsIn_of_wp Tryz.func193 rfl trivial ?_ rfl
 simp only [Tryz.ntmps193, List.size_toArray, List.length_cons, List.length_nil, Nat.reduceAdd, Nat.reduceSub, Array.replicate_succ, Array.replicate_zero, List.push_toArray, List.append_toArray, List.nil_append, List.cons_append]
 gi_wp2
 gi_loopw [4, 5] (fun a b wr => ∃ (k : Nat) (pre : List (Nat × Nat)) (y z : Value), a = y ∧ b = z ∧ Hid (LnSt s bf bs i J k pre wr)) (fun _ _ wr => s.length - (intOf ((wr.cell? ⟨bf, 0, none⟩).getD undef)).toNat)
 case atStart => exact ⟨i, [], _, _, rfl, rfl, H0⟩
 case round =>
  obtain ⟨k, pre, y, z, rfl, rfl, HR⟩ := hrel
  have c0 := cells_at HR.out.hf 0 (u := .int .i64 (k : Int)) rfl
  have c1 := cells_at HR.out.hs 0 (u := .string (ba s)) rfl
  have f0 := cells_free HR.out.hf 0
  have hkl := HR.out.le
  have hz0 : ((ba s).size : Int) = (s.length : Int) := by rw [ba_size]
  by_cases hlt : k < s.length
  ·have hk2 : (k : Int) < (s.length : Int) := by omega
   have hk3 : (s.length : Int) ≤ 1000000000 := by omega
   have hx1 : (ba s).extract k (ba s).size = ba (s.drop k) := ba_drop _ _
   have HE := Lib.hid (lns_end hlt)
   have hIX := fun w => indexb_any 10 (s.drop k) w
   simp only [indexV] at hIX
   have HIX := Lib.hid hIX
   clear hIX
   have HLEN := Lib.hid (show pre.length < (lnsP s i).length by rw [← HR.out.eq, lns_end hlt, List.length_append, List.length_cons]; omega)
   cases hc : cutP 10 (s.drop k) with
   | none =>
    have HF := Lib.hid (show k + endP (s.drop k) = s.length by unfold endP; rw [hc]; dsimp only; rw [List.length_drop]; omega)
    rw [hc] at HIX
    dsimp only at HIX
    clear hc
    gi_wp2_with fail
    refine ⟨trivial, ?_⟩
    refine (callsIn_wide.2 (HIX.out _)).mono ?_
    rintro e w2 ⟨rfl, rfl⟩
    obtain ⟨fn, tmps, assign, body, hy, hR⟩ := HY.out _ (k, s.length) _ HR.out.j HLEN.out hkl (Nat.le_refl _)
    gi_wp2_with fail
    refine hR.mono ?_
    rintro e W4 (⟨rfl, hJ4, hk4⟩ | ⟨rfl, hJ4⟩)
    ·have HN := Lib.hid (HR.out.next HNE.out HJ.out hk4 HF.out hlt hJ4)
     have d0 := cells_at (hk4.1.trans HR.out.hf) 0 (u := .int .i64 (k : Int)) rfl
     have d1 := cells_at (hk4.2.trans HR.out.hs) 0 (u := .string (ba s)) rfl
     have e0 := cells_free (hk4.1.trans HR.out.hf) 0
     have HM := Lib.hid (cells_at HN.out.hf 0 (u := .int .i64 ((s.length : Nat) : Int)) rfl)
     have HC0 := Lib.hid c0
     clear hk4 hJ4 hR hy c0
     gi_wp2
     go_roundw
     case rel => exact ⟨s.length, pre ++ [(k, s.length)], _, _, rfl, rfl, HN⟩
     case measure => rw [HM.out, HC0.out]; simp [intOf] <;> omega
    ·have HX := Lib.hid hJ4
     have HP := Lib.hid (show pre ++ [(k, s.length)] <+: lnsP s i from ⟨lnsP s s.length, by rw [← HR.out.eq, HE.out, HF.out]; simp⟩)
     clear hR hy hJ4
     gi_wp2
     refine bodyPost_ret (results_none rfl _ _ _) rfl ?_
     exact ⟨⟨_, rfl⟩, .inr ⟨_, HP.out, HX.out⟩⟩
   | some q =>
    have hq := congrArg List.length (cutP_some (a := q.1) (b := q.2) hc).1
    rw [List.length_append, List.length_cons, List.length_drop] at hq
    obtain ⟨t, ht⟩ : ∃ t, k + (q.1.length + 1) = t := ⟨_, rfl⟩
    have HF := Lib.hid (show k + endP (s.drop k) = t by unfold endP; rw [hc]; exact ht)
    rw [hc] at HIX
    dsimp only at HIX
    obtain ⟨m, hm⟩ : ∃ m, q.1.length = m := ⟨_, rfl⟩
    rw [hm] at HIX hq ht
    have htl : t ≤ s.length := by omega
    have htk : k < t := by omega
    have htn : (k : Int) + (m : Int) + 1 = (t : Int) := by omega
    have hti : (t : Int) ≤ 1000000000 := by omega
    have h1 : (-1 : Int) ≠ (m : Int) := by omega
    clear hc hm hq
    gi_wp2_with fail
    refine ⟨trivial, ?_⟩
    refine (callsIn_wide.2 (HIX.out _)).mono ?_
    rintro e w2 ⟨rfl, rfl⟩
    obtain ⟨fn, tmps, assign, body, hy, hR⟩ := HY.out _ (k, t) _ HR.out.j HLEN.out (Nat.le_of_lt htk) htl
    gi_wp2_with fail
    refine hR.mono ?_
    rintro e W4 (⟨rfl, hJ4, hk4⟩ | ⟨rfl, hJ4⟩)
    ·have HN := Lib.hid (HR.out.next HNE.out HJ.out hk4 HF.out hlt hJ4)
     have d0 := cells_at (hk4.1.trans HR.out.hf) 0 (u := .int .i64 (k : Int)) rfl
     have d1 := cells_at (hk4.2.trans HR.out.hs) 0 (u := .string (ba s)) rfl
     have e0 := cells_free (hk4.1.trans HR.out.hf) 0
     have HM := Lib.hid (cells_at HN.out.hf 0 (u := .int .i64 ((t : Nat) : Int)) rfl)
     have HC0 := Lib.hid c0
     clear hk4 hJ4 hR hy c0
     gi_wp2
     go_roundw
     case rel => exact ⟨t, pre ++ [(k, t)], _, _, rfl, rfl, HN⟩
     case measure => rw [HM.out, HC0.out]; simp [intOf] <;> omega
    ·have HX := Lib.hid hJ4
     have HP := Lib.hid (show pre ++ [(k, t)] <+: lnsP s i from ⟨lnsP s t, by rw [← HR.out.eq, HE.out, HF.out]; simp⟩)
     clear hR hy hJ4
     gi_wp2
     refine bodyPost_ret (results_none rfl _ _ _) rfl ?_
     exact ⟨⟨_, rfl⟩, .inr ⟨_, HP.out, HX.out⟩⟩
  ·obtain rfl : k = s.length := by omega
   have HD := Lib.hid (show pre = lnsP s i by rw [← HR.out.eq, lns_nil (Nat.le_refl _), List.append_nil])
   have HJJ := Lib.hid HR.out.j
   gi_wp2
   go_end0
   exact ⟨⟨_, rfl⟩, .inl ⟨_, HD.out, HJJ.out⟩⟩
end Go.Proofs.YthidbmeaccpjdaaGreatDoor
end
namespace Go.Proofs.YthidbmeaccpjdaaGreatDoor
open Go.RowKit
set_option linter.unusedVariables false
set_option maxHeartbeats 4000000
theorem bodyOf_len (s : List UInt8) (p : Prt) : (bodyOf s p).length ≤ s.length := by
 unfold bodyOf
 split
 ·rw [List.length_drop, List.length_take]; omega
 ·exact Nat.zero_le _
theorem bytesP_len (s : List UInt8) (p : Prt) : (bytesP s p).length ≤ s.length := by
 have h0 := bodyOf_len s p
 have h1 := unb64P_len (bodyOf s p)
 have h2 := unqpP_len (bodyOf s p)
 unfold bytesP
 split
 ·omega
 ·split <;> omega
set_option maxRecDepth 100000 in
theorem bytes_any (s : List UInt8) (p : Prt) (A : Option Addr) (n c : Nat) (w : World) (hs : s.length ≤ 1000000000) (hT : Tabs w) :
  Calls Tryz.prog 13 #[.string (ba s), prtV p A n c] w (StrB w (bytesP s p)) := by
 have HT := Lib.hid hT
 have HBO := Lib.hid (fun W => body_any s p A n c W hs)
 have hbl : (bodyOf s p).length ≤ 1000000000 := Nat.le_trans (bodyOf_len s p) hs
 have HV := Lib.hid (show bytesP s p = if p.code = wB64 then unb64P (bodyOf s p) else if p.code = wQp then unqpP (bodyOf s p) else bodyOf s p from rfl)
 obtain ⟨b, hb⟩ : ∃ b, bodyOf s p = b := ⟨_, rfl⟩
 simp only [hb] at HBO
 rw [hb] at HV hbl
 clear hb
 obtain ⟨R, hR⟩ : ∃ R, bytesP s p = R := ⟨_, rfl⟩
 rw [hR] at HV ⊢
 clear hR
 have HU := Lib.hid (fun W (hW : Below w.heap.size w W) => unb64_any b W hbl (HT.out.below hW))
 have HQ := Lib.hid (fun W (hW : Below w.heap.size w W) => unqp_any b W hbl (HT.out.below hW))
 obtain ⟨p0, p1, p2, p3, p4, ⟨p5, p6, p7⟩, p8⟩ := p
 unfold prtV at HBO ⊢
 unfold StrB at HBO HU HQ
 dsimp only at HBO HV ⊢
 have HBW := Lib.hid (show Below w.heap.size w (w.alloc (.cells #[.int .i64 p0, .int .i64 p1, .int .i64 p2, .int .i64 p3, .int .i64 p4, .string (ba p5), .string (ba p6), .slice A n c, .string (ba p8)] 26)) from (Below.refl _ _).alloc (Nat.le_refl _) _)
 have hbx := (MapKept.heap_alloc w (.cells #[.int .i64 p0, .int .i64 p1, .int .i64 p2, .int .i64 p3, .int .i64 p4, .string (ba p5), .string (ba p6), .slice A n c, .string (ba p8)] 26)).1
 have HBX := Lib.hid hbx
 clear hbx hT
 go_enter Tryz.func13, Tryz.ntmps13
 go_wp2_with fail
 refine (HBO.out _).mono ?_
 rintro e w2 ⟨rfl, hb2⟩
 have c8 := cells_at ((hb2.block _ (heap_lt HBX.out)).trans HBX.out) 8 (u := .string (ba p8)) rfl
 have HB2 := Lib.hid (HBW.out.trans (hb2.mono HBW.out.size))
 clear hb2
 by_cases h64 : p8 = wB64
 ·have g64 : ((ba p8).toList == [98, 97, 115, 101, 54, 52]) = true := by rw [ba_toList, h64]; rfl
  rw [if_pos h64] at HV
  clear h64
  go_wp2_with fail
  refine (HU.out _ HB2.out).mono ?_
  rintro e w3 ⟨rfl, hb3⟩
  have HB3 := Lib.hid (HB2.out.trans (hb3.mono HB2.out.size))
  clear hb3
  go_wp2
  go_ret
  exact ⟨by rw [HV.out]; rfl, HB3.out⟩
 ·have g64 : ((ba p8).toList == [98, 97, 115, 101, 54, 52]) = false := by rw [ba_toList]; show (p8 == wB64) = false; simpa using h64
  rw [if_neg h64] at HV
  clear h64
  by_cases hq : p8 = wQp
  ·have gq : ((ba p8).toList == [113, 117, 111, 116, 101, 100, 45, 112, 114, 105, 110, 116, 97, 98, 108, 101]) = true := by rw [ba_toList, hq]; rfl
   rw [if_pos hq] at HV
   clear hq
   go_wp2_with fail
   refine (HQ.out _ HB2.out).mono ?_
   rintro e w3 ⟨rfl, hb3⟩
   have HB3 := Lib.hid (HB2.out.trans (hb3.mono HB2.out.size))
   clear hb3
   go_wp2
   go_ret
   exact ⟨by rw [HV.out]; rfl, HB3.out⟩
  ·have gq : ((ba p8).toList == [113, 117, 111, 116, 101, 100, 45, 112, 114, 105, 110, 116, 97, 98, 108, 101]) = false := by rw [ba_toList]; show (p8 == wQp) = false; simpa using hq
   rw [if_neg hq] at HV
   clear hq
   go_wp2
   go_ret
   exact ⟨by rw [HV.out]; rfl, HB2.out⟩
theorem upDigits_at (n : Nat) (h : n < 16) (h2 : n < (⟨#[48, 49, 50, 51, 52, 53, 54, 55, 56, 57, 65, 66, 67, 68, 69, 70]⟩ : ByteArray).size) : ((⟨#[48, 49, 50, 51, 52, 53, 54, 55, 56, 57, 65, 66, 67, 68, 69, 70]⟩ : ByteArray)[n]'h2) = hexU n := by
 revert h2
 revert n
 decide
theorem plainQ_eq {c : UInt8} {x : Int} (hx : (c.toNat : Int) = x) {b : Bool} (h : b = (decide (32 < x) && decide (x < 127) && !decide (x = 61))) : b = plainQ c := by
 subst h
 unfold plainQ
 rw [Bool.eq_iff_iff]
 simp only [Bool.and_eq_true, decide_eq_true_iff, Bool.not_eq_true', decide_eq_false_iff_not]
 have e1 : ((32 : UInt8) < c) ↔ 32 < x := by
  rw [UInt8.lt_iff_toNat_lt, ← hx]
  show (32 : Nat) < _ ↔ _
  omega
 have e2 : (c < (127 : UInt8)) ↔ x < 127 := by
  rw [UInt8.lt_iff_toNat_lt, ← hx]
  show _ < (127 : Nat) ↔ _
  omega
 have e3 : c = 61 ↔ x = 61 := by
  rw [← UInt8.toNat_inj, ← hx]
  show _ = (61 : Nat) ↔ _
  omega
 constructor
 ·rintro ⟨⟨a, b⟩, d⟩; exact ⟨⟨e1.2 a, e2.2 b⟩, fun h => d (e3.1 h)⟩
 ·rintro ⟨⟨a, b⟩, d⟩; exact ⟨⟨e1.1 a, e2.1 b⟩, fun h => d (e3.2 h)⟩
set_option maxRecDepth 100000 in
theorem qseen_any (c : UInt8) (w : World) : Calls Tryz.prog 127 #[.int .u8 (c.toNat : Int)] w fun e w' => e = .returned (.bool (plainQ c)) ∧ w' = w := by
 obtain ⟨x, hx⟩ : ∃ x : Int, (c.toNat : Int) = x := ⟨_, rfl⟩
 have HF := Lib.hid (fun b => plainQ_eq hx (b := b))
 rw [hx]
 clear hx
 go_enter Tryz.func127, Tryz.ntmps127
 go_wp2
 all_goals
  go_ret
  refine ⟨?_, rfl⟩
  show Ending.returned (Value.bool _) = Ending.returned (Value.bool (plainQ c))
  rw [← HF.out _ rfl]
  congr 2
  rw [Bool.eq_iff_iff]
  simp only [Bool.and_eq_true, decide_eq_true_iff, Bool.not_eq_true', decide_eq_false_iff_not]
  first | omega | (simp; omega)
set_option maxRecDepth 100000 in
theorem qescape_any (c : UInt8) (w : World) : Calls Tryz.prog 129 #[.int .u8 (c.toNat : Int)] w (StrB w (qpEsc c)) := by
 obtain ⟨x, hx⟩ : ∃ x : Int, (c.toNat : Int) = x := ⟨_, rfl⟩
 have HX := Lib.hid hx
 have hx0 : 0 ≤ x := by omega
 have hx1 : x ≤ 255 := by have := c.toNat_lt; omega
 have hg1 : ∀ h : (x / 16).toNat < (⟨#[48, 49, 50, 51, 52, 53, 54, 55, 56, 57, 65, 66, 67, 68, 69, 70]⟩ : ByteArray).size, (((⟨#[48, 49, 50, 51, 52, 53, 54, 55, 56, 57, 65, 66, 67, 68, 69, 70]⟩ : ByteArray)[(x / 16).toNat]'h).toNat : Int) = ((hexU (c.toNat / 16)).toNat : Int) := fun h => by
  have e : (x / 16).toNat = c.toNat / 16 := by rw [← HX.out]; omega
  rw [upDigits_at _ (by omega) h, e]
 have hg2 : ∀ h : (x % 16).toNat < (⟨#[48, 49, 50, 51, 52, 53, 54, 55, 56, 57, 65, 66, 67, 68, 69, 70]⟩ : ByteArray).size, (((⟨#[48, 49, 50, 51, 52, 53, 54, 55, 56, 57, 65, 66, 67, 68, 69, 70]⟩ : ByteArray)[(x % 16).toNat]'h).toNat : Int) = ((hexU (c.toNat % 16)).toNat : Int) := fun h => by
  have e : (x % 16).toNat = c.toNat % 16 := by rw [← HX.out]; omega
  rw [upDigits_at _ (by omega) h, e]
 rw [hx]
 unfold qpEsc
 obtain ⟨d1, hd1⟩ : ∃ d, hexU (c.toNat / 16) = d := ⟨_, rfl⟩
 obtain ⟨d2, hd2⟩ : ∃ d, hexU (c.toNat % 16) = d := ⟨_, rfl⟩
 rw [hd1, hd2]
 simp only [hd1] at hg1
 simp only [hd2] at hg2
 clear hd1 hd2 hx
 go_enter Tryz.func129, Tryz.ntmps129
 obtain ⟨y1, hy1⟩ : ∃ y : Int, (d1.toNat : Int) = y := ⟨_, rfl⟩
 obtain ⟨y2, hy2⟩ : ∃ y : Int, (d2.toNat : Int) = y := ⟨_, rfl⟩
 have HY := Lib.hid (And.intro hy1 hy2)
 simp only [hy1] at hg1
 simp only [hy2] at hg2
 clear hy1 hy2
 have HBK := Lib.hid (show ∀ W : World, (convert 62 9 (.slice (some ⟨W.heap.size, 0, none⟩) 3 3)).run Tryz.prog (W.alloc (.cells #[.int .u8 61, .int .u8 y1, .int .u8 y2] 5)) = .ok (.string (ba [61, d1, d2])) (W.alloc (.cells #[.int .u8 61, .int .u8 y1, .int .u8 y2] 5)) from fun W => by
  have hx := (MapKept.heap_alloc W (.cells #[.int .u8 61, .int .u8 y1, .int .u8 y2] 5)).1
  refine run_convert_bytes_back (P := Tryz.prog) _ 62 9 5 ⟨W.heap.size, 0, none⟩ 3 [61, d1, d2] Tryz.underlying62 Tryz.underlying5 Tryz.underlying9 (fun j hj => ?_)
  have e := cells_at hx j (u := .int .u8 (([61, d1, d2] : List UInt8)[j].toNat : Int)) (by
   match j, hj with
   | 0, _ => rfl
   | 1, _ => show some (Value.int .u8 y1) = some (Value.int .u8 (d1.toNat : Int)); rw [HY.out.1]
   | 2, _ => show some (Value.int .u8 y2) = some (Value.int .u8 (d2.toNat : Int)); rw [HY.out.2])
  rw [show Addr.add ⟨W.heap.size, 0, none⟩ j = ⟨W.heap.size, j, none⟩ by unfold Addr.add; split <;> simp_all]
  exact e)
 have hb15 : bits .and .u8 x 15 = x % 16 := by
  have h := (by decide +kernel : ∀ n : Fin 256, bits .and .u8 (n.val : Int) 15 = (n.val : Int) % 16) ⟨c.toNat, c.toNat_lt⟩
  dsimp only at h
  rw [HX.out] at h
  exact h
 have b1 : 0 ≤ x / 16 := by omega
 have b2 : x / 16 < 16 := by omega
 have b3 : 0 ≤ x % 16 := by omega
 have b4 : x % 16 < 16 := by omega
 have b5 : (x / 16).toNat < 16 := by omega
 have b6 : (x % 16).toNat < 16 := by omega
 go_wp2_with fail
 refine wp_region_tail 6 (by kernel_rfl) (by kernel_rfl) ?_
 simp only [List.take_succ_cons, List.take_zero, List.drop_succ_cons, List.drop_zero]
 repeat still_step
 try refine wpStill_nil ?_
 obtain ⟨w2, hw2⟩ : ∃ W, w.drew = W := ⟨_, rfl⟩
 have HB2 := Lib.hid (show Below w.heap.size w w2 by rw [← hw2]; exact (Below.refl _ _).drew)
 rw [hw2]
 clear hw2
 have hbk := HBK.out w2
 go_wp2
 go_ret
 exact ⟨rfl, HB2.out.alloc HB2.out.size _⟩
end Go.Proofs.YthidbmeaccpjdaaGreatDoor
