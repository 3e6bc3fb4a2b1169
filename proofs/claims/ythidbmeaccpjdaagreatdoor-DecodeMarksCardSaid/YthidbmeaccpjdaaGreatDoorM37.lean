/- Layer 9: the iterator named: its contract. -/
import Derived.RangeFuncNested
import Derived.RangeFuncBound
import Derived.RangeFuncCalls
import Derived.RangeFuncLeaves
import Derived.Shelf.Abstract
import Derived.Shelf.RegionOpen
import Derived.WalkKit
import Derived.OwnWalkIn
import Derived.TacticsInMore
import Derived.LoopNIn
import Derived.LoopIn
import Derived.Test.YthidbmeaccpjdaaGreatDoorM33
import Derived.Test.YthidbmeaccpjdaaGreatDoorM06
import Derived.Test.YthidbmeaccpjdaaGreatDoorM15
section
namespace Go.Proofs.YthidbmeaccpjdaaGreatDoor
open Go.RowKit
set_option linter.unusedVariables false
open Go.Shelf
attribute [local go_sem] Oper.semAt_some
def fitB (key : List UInt8) (f : Fld) : Bool := !f.bad && decide (smallP f.name = key)
def meanF (f : Fld) : List UInt8 := Lib.trimS (unfoldP f.value) blanksP
def valsP (key : List UInt8) (fs : List Fld) : List (List UInt8) := (fs.filter (fitB key)).map meanF
theorem vals_yes {key : List UInt8} {fs : List Fld} {k : Nat} (hk : k < fs.length) (h : fitB key fs[k] = true) : valsP key (fs.take (k + 1)) = valsP key (fs.take k) ++ [meanF fs[k]] := by
 unfold valsP
 rw [List.take_succ_eq_append_getElem hk, List.filter_append, List.map_append, List.filter_cons_of_pos h]
 rfl
theorem vals_no {key : List UInt8} {fs : List Fld} {k : Nat} (hk : k < fs.length) (h : fitB key fs[k] = false) : valsP key (fs.take (k + 1)) = valsP key (fs.take k) := by
 unfold valsP
 rw [List.take_succ_eq_append_getElem hk, List.filter_append, List.map_append, List.filter_cons_of_neg (by rw [h]; decide)]
 simp
theorem vals_pre (key : List UInt8) (fs : List Fld) (k : Nat) : valsP key (fs.take k) <+: valsP key fs := by
 unfold valsP
 exact ((List.take_prefix k fs).filter _).map _
theorem abides_none {β : Type} {B : Nat} {J : β → World → Prop} (h : AbidesFrom B J) {s : β} {W W' : World} (hs : J s W) (hb : Below W.heap.size W W') : J s W' :=
 h s W W' none hs ⟨hb.os, hb.tape, hb.output, hb.size, fun k hk _ => hb.block k hk⟩ (fun r e => by cases e)
set_option maxRecDepth 100000 in
set_option maxHeartbeats 4000000 in
theorem hnamed1_in (l Bl Bn n₀ m c B : Nat) (fs : List Fld) (A : Option Addr) (key : List UInt8) (J Jx : List (List UInt8) → World → Prop) (hJ : AbidesFrom B J)
  (hY : ∀ pre x W, J pre W → pre.length < (valsP key fs).length → YieldAt Fence.wide 7 Tryz.prog l #[.string (ba x)] W fun e W' =>
   (e = .returned (.bool true) ∧ J (pre ++ [x]) W' ∧ Below n₀ W W') ∨ (e = .returned (.bool false) ∧ Jx (pre ++ [x]) W'))
  (W : World) (hF : Flds W n₀ A m fs) (hm : m ≤ 1000000000) (hfl : ∀ f ∈ fs, f.name.length ≤ 1000000000 ∧ f.value.length ≤ 1000000000) (hn0 : n₀ ≤ W.heap.size) (hBn : Bn < n₀)
  (hl : W.cell? ⟨Bl, 0, none⟩ = some (.slice A m c)) (hk : W.cell? ⟨Bn, 0, none⟩ = some (.string (ba key))) (hT : ∀ W', Below n₀ W W' → Tabs W') (h0 : J [] W) :
  CallsIn Fence.wide 8 Tryz.prog 197 #[.func (.yield l) #[] #[], .pointer (some ⟨Bl, 0, none⟩), .pointer (some ⟨Bn, 0, none⟩)] W fun e W' => (∃ v, e = .returned v) ∧
   ((∃ ys, ys = valsP key fs ∧ J ys W') ∨ (∃ pre, pre <+: valsP key fs ∧ Jx pre W')) := by
 have HY := Lib.hid hY
 have HF := Lib.hid hF
 have HN := Lib.hid hF.len
 have HFL := Lib.hid hfl
 have HT := Lib.hid hT
 have HJ := Lib.hid (fun s (A B : World) (h : J s A) hb => abides_none hJ (W' := B) h hb)
 have HK := Lib.hid (show ∀ W', Below n₀ W W' → W'.cell? ⟨Bn, 0, none⟩ = some (.string (ba key)) from fun W' hb => (hb.cell (p := ⟨Bn, 0, none⟩) hBn).trans hk)
 have H0 := Lib.hid h0
 clear hY hF hfl hT hJ hk h0
 refine callsIn_of_wp Tryz.func197 rfl trivial ?_ rfl
 simp only [Tryz.ntmps197, List.size_toArray, List.length_cons, List.length_nil, Nat.reduceAdd, Nat.reduceSub, Array.replicate_succ, Array.replicate_zero, List.push_toArray, List.append_toArray, List.nil_append, List.cons_append]
 gi_wp2
 gi_loopw [5, 8] (fun b i wr => ∃ (k : Nat) (y : Value), b = y ∧ k ≤ m ∧ i = .int .i64 k ∧ Hid (J (valsP key (fs.take k)) wr ∧ Below n₀ W wr)) (fun _ i _ => m - (intOf i).toNat)
 case atStart => exact ⟨0, _, rfl, Nat.zero_le _, rfl, Lib.hid ⟨H0.out, Below.refl _ _⟩⟩
 case round =>
  obtain ⟨k, y, rfl, hk, rfl, HR⟩ := hrel
  by_cases hlt : k < m
  ·have hk2 : (k : Int) < (m : Int) := by omega
   have hkl : k < fs.length := by rw [HN.out]; exact hlt
   obtain ⟨ad, rfl, hbl, c0, c1, c2, c3, -⟩ := (HF.out.below HR.out.2).2 k hkl
   have HVY := Lib.hid (vals_yes (key := key) hkl)
   have HVN := Lib.hid (vals_no (key := key) hkl)
   have hff := HFL.out _ (List.getElem_mem hkl)
   obtain ⟨f, hf⟩ : ∃ f, fs[k] = f := ⟨_, rfl⟩
   rw [hf] at c0 c1 c2 c3 HVY HVN hff
   obtain ⟨f1, f2, f3, f4⟩ := f
   dsimp only at c0 c1 c2 c3
   clear hf hkl
   gi_wp2
   obtain ⟨V0, hV0⟩ : ∃ V, (wr.alloc (.cells #[.string (ba f1), .string (ba f2), .string (ba f3), .bool f4] 162)).drew = V := ⟨_, rfl⟩
   have HXV0 := Lib.hid (show V0.heap[wr.heap.size]? = some (.cells #[.string (ba f1), .string (ba f2), .string (ba f3), .bool f4] 162 (0, 0)) by rw [← hV0]; exact (MapKept.heap_alloc wr (.cells #[.string (ba f1), .string (ba f2), .string (ba f3), .bool f4] 162)).1)
   have HBV0 := Lib.hid (show Below n₀ W V0 by rw [← hV0]; exact (HR.out.2.alloc (Nat.le_trans hn0 HR.out.2.size) (.cells #[.string (ba f1), .string (ba f2), .string (ba f3), .bool f4] 162)).drew)
   have HJV0 := Lib.hid (HJ.out _ _ _ HR.out.1 (show Below wr.heap.size wr V0 by rw [← hV0]; exact ((Below.refl _ _).alloc (Nat.le_refl _) (.cells #[.string (ba f1), .string (ba f2), .string (ba f3), .bool f4] 162)).drew))
   have HSM := Lib.hid (fun W => hdsmall_any f1 W hff.1)
   have HUN := Lib.hid (fun W' hW => hunfold_any f2 W' hff.2 (HT.out W' hW))
   have HTR := Lib.hid (fun W' => htrim_any (unfoldP f2) W' (Nat.le_trans (unfoldP_len f2) hff.2))
   unfold StrB at HSM HUN HTR
   clear c0 c1 c2 c3 hbl hff HR
   cases f4 with
   | true =>
    have HV := Lib.hid (HVN.out rfl)
    clear HVY HVN HSM HUN HTR
    refine wpIn_region_any (by kernel_rfl) ?_
    change wpAnyIn _ _ _ _ _ _ _ _ _ (World.drew _)
    rw [hV0]
    clear hV0
    have pV00 := cells_at HXV0.out 0 (u := .string (ba f1)) rfl
    have pV01 := cells_at HXV0.out 1 (u := .string (ba f2)) rfl
    have pV03 := cells_at HXV0.out 3 (u := .bool true) rfl
    have pV0k := HK.out _ HBV0.out
    refine wpAnyIn_take (i := 0) (oi := { dst := some 12, op := Op.fieldAddr 162 (Operand.tmp 5) 3, type := 0, pos := "header.go:107", after := #[], guard := none }) (v := ?_) rfl rfl (by kernel_rfl) (by kernel_rfl) (by kernel_rfl) (fun _ _ _ h => h) ⟨Or.inl ⟨by rfl, ?_⟩, fun _ => rfl⟩ ?_
    rotate_left
    ·(intro w9; go_simp; all_goals with_reducible rfl)
    try simp only [Act.put, List.setIfInBounds_toArray, List.set_cons_zero, List.set_cons_succ]
    refine wpAnyIn_ready (rs := [1]) (by kernel_rfl) (by simp) ?_
    refine AllReadyIn.cons (o := { dst := some 13, op := Op.load 4 (Operand.tmp 12), type := 4, pos := "header.go:107", after := #[{ on := 0, ground := Ground.data }], guard := none }) rfl (fun K hK => ?_) AllReadyIn.nil
    have HC := Lib.hid hK
    clear hK
    go_simp
    refine HC.out _ _ ?_
    clear HC K
    try simp only [Act.put, List.setIfInBounds_toArray, List.set_cons_zero, List.set_cons_succ]
    refine wpAnyIn_take (i := 2) (oi := { dst := some 14, op := Op.unOp UnOp.not 4 (Operand.tmp 13), type := 4, pos := "header.go:107", after := #[{ on := 1, ground := Ground.data }], guard := none }) (v := ?_) rfl rfl (by kernel_rfl) (by kernel_rfl) (by kernel_rfl) (fun _ _ _ h => h) ⟨Or.inl ⟨by rfl, ?_⟩, fun _ => rfl⟩ ?_
    rotate_left
    ·(intro w9; go_simp; all_goals with_reducible rfl)
    try simp only [Act.put, List.setIfInBounds_toArray, List.set_cons_zero, List.set_cons_succ]
    refine wpAnyIn_take (i := 3) (oi := { dst := some 15, op := Op.move (Operand.tmp 14), type := 4, pos := "header.go:107", after := #[{ on := 2, ground := Ground.data }], guard := none }) (v := ?_) rfl rfl (by kernel_rfl) (by kernel_rfl) (by kernel_rfl) (fun _ _ _ h => h) ⟨Or.inl ⟨by rfl, ?_⟩, fun _ => rfl⟩ ?_
    rotate_left
    ·(intro w9; go_simp; all_goals with_reducible rfl)
    try simp only [Act.put, List.setIfInBounds_toArray, List.set_cons_zero, List.set_cons_succ]
    refine wpAnyIn_take (i := 4) (oi := { dst := some 16, op := Op.fieldAddr 162 (Operand.tmp 5) 0, type := 0, pos := "header.go:107", after := #[{ on := 3, ground := Ground.guard }], guard := some (3, true) }) (v := undef) rfl rfl (by kernel_rfl) (by kernel_rfl) (by kernel_rfl) (fun _ _ _ h => h) ⟨Or.inr ⟨by rfl, rfl⟩, fun _ => rfl⟩ ?_
    try simp only [Act.put, List.setIfInBounds_toArray, List.set_cons_zero, List.set_cons_succ]
    refine wpAnyIn_take (i := 5) (oi := { dst := some 17, op := Op.load 9 (Operand.tmp 16), type := 9, pos := "header.go:107", after := #[{ on := 4, ground := Ground.data }, { on := 3, ground := Ground.guard }], guard := some (3, true) }) (v := undef) rfl rfl (by kernel_rfl) (by kernel_rfl) (by kernel_rfl) (fun _ _ _ h => h) ⟨Or.inr ⟨by rfl, rfl⟩, fun _ => rfl⟩ ?_
    try simp only [Act.put, List.setIfInBounds_toArray, List.set_cons_zero, List.set_cons_succ]
    refine wpAnyIn_take (i := 7) (oi := { dst := some 19, op := Op.load 9 (Operand.tmp 2), type := 9, pos := "header.go:107", after := #[{ on := 3, ground := Ground.guard }], guard := some (3, true) }) (v := undef) rfl rfl (by kernel_rfl) (by kernel_rfl) (by kernel_rfl) (fun _ _ _ h => h) ⟨Or.inr ⟨by rfl, rfl⟩, fun _ => rfl⟩ ?_
    try simp only [Act.put, List.setIfInBounds_toArray, List.set_cons_zero, List.set_cons_succ]
    refine wpAnyIn_ready (rs := [6]) (by kernel_rfl) (by simp) ?_
    refine AllReadyIn.cons (o := { dst := some 18, op := Op.call { callee := Callee.value (Operand.func 196), args := #[Operand.tmp 17], argTypes := #[9] }, type := 9, pos := "header.go:107", after := #[{ on := 5, ground := Ground.data }, { on := 3, ground := Ground.chain }, { on := 3, ground := Ground.guard }], guard := some (3, true) }) rfl (fun K hK => ?_) AllReadyIn.nil
    have HC := Lib.hid hK
    clear hK
    go_simp
    (first | refine ⟨trivial, ?_⟩ | refine ⟨fun _ _ => trivial, ?_⟩ | skip)
    refine HC.out _ _ ?_
    clear HC K
    try simp only [Act.put, List.setIfInBounds_toArray, List.set_cons_zero, List.set_cons_succ]
    refine wpAnyIn_take (i := 8) (oi := { dst := some 20, op := Op.binOp BinOp.eql 9 (Operand.tmp 18) (Operand.tmp 19) 9, type := 4, pos := "header.go:107", after := #[{ on := 6, ground := Ground.data }, { on := 7, ground := Ground.data }, { on := 3, ground := Ground.guard }], guard := some (3, true) }) (v := undef) rfl rfl (by kernel_rfl) (by kernel_rfl) (by kernel_rfl) (fun _ _ _ h => h) ⟨Or.inr ⟨by rfl, rfl⟩, fun _ => rfl⟩ ?_
    try simp only [Act.put, List.setIfInBounds_toArray, List.set_cons_zero, List.set_cons_succ]
    refine wpAnyIn_take (i := 9) (oi := { dst := some 21, op := Op.pick (Operand.tmp 15) (Operand.tmp 20) (Operand.const (Value.bool false)), type := 4, pos := "header.go:107", after := #[{ on := 3, ground := Ground.data }, { on := 8, ground := Ground.data }], guard := none }) (v := ?_) rfl rfl (by kernel_rfl) (by kernel_rfl) (by kernel_rfl) (fun _ _ _ h => h) ⟨Or.inl ⟨by rfl, ?_⟩, fun _ => rfl⟩ ?_
    rotate_left
    ·(intro w9; go_simp; all_goals with_reducible rfl)
    try simp only [Act.put, List.setIfInBounds_toArray, List.set_cons_zero, List.set_cons_succ]
    refine wpAnyIn_take (i := 10) (oi := { dst := some 22, op := Op.move (Operand.tmp 21), type := 4, pos := "header.go:107", after := #[{ on := 9, ground := Ground.data }, { on := 6, ground := Ground.chain }], guard := none }) (v := ?_) rfl rfl (by kernel_rfl) (by kernel_rfl) (by kernel_rfl) (fun _ _ _ h => h) ⟨Or.inl ⟨by rfl, ?_⟩, fun _ => rfl⟩ ?_
    rotate_left
    ·(intro w9; go_simp; all_goals with_reducible rfl)
    try simp only [Act.put, List.setIfInBounds_toArray, List.set_cons_zero, List.set_cons_succ]
    refine wpAnyIn_take (i := 11) (oi := { dst := some 23, op := Op.move (Operand.tmp 0), type := 28, pos := "header.go:107", after := #[{ on := 10, ground := Ground.guard }], guard := some (10, true) }) (v := undef) rfl rfl (by kernel_rfl) (by kernel_rfl) (by kernel_rfl) (fun _ _ _ h => h) ⟨Or.inr ⟨by rfl, rfl⟩, fun _ => rfl⟩ ?_
    try simp only [Act.put, List.setIfInBounds_toArray, List.set_cons_zero, List.set_cons_succ]
    refine wpAnyIn_take (i := 12) (oi := { dst := some 24, op := Op.fieldAddr 162 (Operand.tmp 5) 1, type := 0, pos := "header.go:107", after := #[{ on := 10, ground := Ground.guard }], guard := some (10, true) }) (v := undef) rfl rfl (by kernel_rfl) (by kernel_rfl) (by kernel_rfl) (fun _ _ _ h => h) ⟨Or.inr ⟨by rfl, rfl⟩, fun _ => rfl⟩ ?_
    try simp only [Act.put, List.setIfInBounds_toArray, List.set_cons_zero, List.set_cons_succ]
    refine wpAnyIn_take (i := 13) (oi := { dst := some 25, op := Op.load 9 (Operand.tmp 24), type := 9, pos := "header.go:107", after := #[{ on := 12, ground := Ground.data }, { on := 10, ground := Ground.guard }], guard := some (10, true) }) (v := undef) rfl rfl (by kernel_rfl) (by kernel_rfl) (by kernel_rfl) (fun _ _ _ h => h) ⟨Or.inr ⟨by rfl, rfl⟩, fun _ => rfl⟩ ?_
    try simp only [Act.put, List.setIfInBounds_toArray, List.set_cons_zero, List.set_cons_succ]
    refine wpAnyIn_ready (rs := [14]) (by kernel_rfl) (by simp) ?_
    refine AllReadyIn.cons (o := { dst := some 26, op := Op.call { callee := Callee.value (Operand.func 198), args := #[Operand.tmp 25], argTypes := #[9] }, type := 9, pos := "header.go:107", after := #[{ on := 13, ground := Ground.data }, { on := 10, ground := Ground.chain }, { on := 10, ground := Ground.guard }], guard := some (10, true) }) rfl (fun K hK => ?_) AllReadyIn.nil
    have HC := Lib.hid hK
    clear hK
    go_simp
    (first | refine ⟨trivial, ?_⟩ | refine ⟨fun _ _ => trivial, ?_⟩ | skip)
    refine HC.out _ _ ?_
    clear HC K
    try simp only [Act.put, List.setIfInBounds_toArray, List.set_cons_zero, List.set_cons_succ]
    refine wpAnyIn_ready (rs := [15]) (by kernel_rfl) (by simp) ?_
    refine AllReadyIn.cons (o := { dst := some 27, op := Op.call { callee := Callee.value (Operand.func 68), args := #[Operand.tmp 26, Operand.const (Value.string { data := #[32, 9] })], argTypes := #[9, 9] }, type := 9, pos := "header.go:107", after := #[{ on := 14, ground := Ground.data }, { on := 14, ground := Ground.chain }, { on := 10, ground := Ground.guard }], guard := some (10, true) }) rfl (fun K hK => ?_) AllReadyIn.nil
    have HC := Lib.hid hK
    clear hK
    go_simp
    (first | refine ⟨trivial, ?_⟩ | refine ⟨fun _ _ => trivial, ?_⟩ | skip)
    refine HC.out _ _ ?_
    clear HC K
    try simp only [Act.put, List.setIfInBounds_toArray, List.set_cons_zero, List.set_cons_succ]
    refine wpAnyIn_ready (rs := [16]) (by kernel_rfl) (by simp) ?_
    refine AllReadyIn.cons (o := { dst := some 28, op := Op.call { callee := Callee.value (Operand.tmp 23), args := #[Operand.tmp 27], argTypes := #[9] }, type := 4, pos := "header.go:107", after := #[{ on := 11, ground := Ground.data }, { on := 15, ground := Ground.data }, { on := 15, ground := Ground.chain }, { on := 10, ground := Ground.guard }], guard := some (10, true) }) rfl (fun K hK => ?_) AllReadyIn.nil
    have HC := Lib.hid hK
    clear hK
    go_simp
    (first | refine ⟨trivial, ?_⟩ | refine ⟨fun _ _ => trivial, ?_⟩ | skip)
    refine HC.out _ _ ?_
    clear HC K
    try simp only [Act.put, List.setIfInBounds_toArray, List.set_cons_zero, List.set_cons_succ]
    refine wpAnyIn_take (i := 17) (oi := { dst := some 29, op := Op.unOp UnOp.not 4 (Operand.tmp 28), type := 4, pos := "header.go:107", after := #[{ on := 16, ground := Ground.data }, { on := 10, ground := Ground.guard }], guard := some (10, true) }) (v := undef) rfl rfl (by kernel_rfl) (by kernel_rfl) (by kernel_rfl) (fun _ _ _ h => h) ⟨Or.inr ⟨by rfl, rfl⟩, fun _ => rfl⟩ ?_
    try simp only [Act.put, List.setIfInBounds_toArray, List.set_cons_zero, List.set_cons_succ]
    refine wpAnyIn_take (i := 18) (oi := { dst := some 30, op := Op.pick (Operand.tmp 22) (Operand.tmp 29) (Operand.const (Value.bool false)), type := 4, pos := "header.go:107", after := #[{ on := 10, ground := Ground.data }, { on := 17, ground := Ground.data }], guard := none }) (v := ?_) rfl rfl (by kernel_rfl) (by kernel_rfl) (by kernel_rfl) (fun _ _ _ h => h) ⟨Or.inl ⟨by rfl, ?_⟩, fun _ => rfl⟩ ?_
    rotate_left
    ·(intro w9; go_simp; all_goals with_reducible rfl)
    try simp only [Act.put, List.setIfInBounds_toArray, List.set_cons_zero, List.set_cons_succ]
    refine wpAnyIn_done (by kernel_rfl) ?_ _
    gi_wp2
    go_roundw
    case rel => exact ⟨k + 1, _, rfl, by omega, by go_num, Lib.hid ⟨by rw [HV.out]; exact HJV0.out, HBV0.out⟩⟩
    case measure => simp [intOf] <;> omega
   | false =>
    by_cases hfit : smallP f1 = key
    ·have HV := Lib.hid (HVY.out (by unfold fitB; simp [hfit]))
     have HPR := Lib.hid (show valsP key (fs.take k) ++ [meanF ⟨f1, f2, f3, false⟩] <+: valsP key fs by rw [← HV.out]; exact vals_pre key fs (k + 1))
     have HLEN := Lib.hid (show (valsP key (fs.take k)).length < (valsP key fs).length by have h := HPR.out.length_le; rw [List.length_append] at h; simp at h; omega)
     have g1 : ((ba (smallP f1)).toList == (ba key).toList) = true := by rw [hfit]; simp
     clear HVY HVN hfit
     refine wpIn_region_any (by kernel_rfl) ?_
     change wpAnyIn _ _ _ _ _ _ _ _ _ (World.drew _)
     rw [hV0]
     clear hV0
     have pV00 := cells_at HXV0.out 0 (u := .string (ba f1)) rfl
     have pV01 := cells_at HXV0.out 1 (u := .string (ba f2)) rfl
     have pV03 := cells_at HXV0.out 3 (u := .bool false) rfl
     have pV0k := HK.out _ HBV0.out
     refine wpAnyIn_take (i := 0) (oi := { dst := some 12, op := Op.fieldAddr 162 (Operand.tmp 5) 3, type := 0, pos := "header.go:107", after := #[], guard := none }) (v := ?_) rfl rfl (by kernel_rfl) (by kernel_rfl) (by kernel_rfl) (fun _ _ _ h => h) ⟨Or.inl ⟨by rfl, ?_⟩, fun _ => rfl⟩ ?_
     rotate_left
     ·(intro w9; go_simp; all_goals with_reducible rfl)
     try simp only [Act.put, List.setIfInBounds_toArray, List.set_cons_zero, List.set_cons_succ]
     refine wpAnyIn_ready (rs := [1]) (by kernel_rfl) (by simp) ?_
     refine AllReadyIn.cons (o := { dst := some 13, op := Op.load 4 (Operand.tmp 12), type := 4, pos := "header.go:107", after := #[{ on := 0, ground := Ground.data }], guard := none }) rfl (fun K hK => ?_) AllReadyIn.nil
     have HC := Lib.hid hK
     clear hK
     go_simp
     refine HC.out _ _ ?_
     clear HC K
     try simp only [Act.put, List.setIfInBounds_toArray, List.set_cons_zero, List.set_cons_succ]
     refine wpAnyIn_take (i := 2) (oi := { dst := some 14, op := Op.unOp UnOp.not 4 (Operand.tmp 13), type := 4, pos := "header.go:107", after := #[{ on := 1, ground := Ground.data }], guard := none }) (v := ?_) rfl rfl (by kernel_rfl) (by kernel_rfl) (by kernel_rfl) (fun _ _ _ h => h) ⟨Or.inl ⟨by rfl, ?_⟩, fun _ => rfl⟩ ?_
     rotate_left
     ·(intro w9; go_simp; all_goals with_reducible rfl)
     try simp only [Act.put, List.setIfInBounds_toArray, List.set_cons_zero, List.set_cons_succ]
     refine wpAnyIn_take (i := 3) (oi := { dst := some 15, op := Op.move (Operand.tmp 14), type := 4, pos := "header.go:107", after := #[{ on := 2, ground := Ground.data }], guard := none }) (v := ?_) rfl rfl (by kernel_rfl) (by kernel_rfl) (by kernel_rfl) (fun _ _ _ h => h) ⟨Or.inl ⟨by rfl, ?_⟩, fun _ => rfl⟩ ?_
     rotate_left
     ·(intro w9; go_simp; all_goals with_reducible rfl)
     try simp only [Act.put, List.setIfInBounds_toArray, List.set_cons_zero, List.set_cons_succ]
     refine wpAnyIn_take (i := 4) (oi := { dst := some 16, op := Op.fieldAddr 162 (Operand.tmp 5) 0, type := 0, pos := "header.go:107", after := #[{ on := 3, ground := Ground.guard }], guard := some (3, true) }) (v := ?_) rfl rfl (by kernel_rfl) (by kernel_rfl) (by kernel_rfl) (fun _ _ _ h => h) ⟨Or.inl ⟨by rfl, ?_⟩, fun _ => rfl⟩ ?_
     rotate_left
     ·(intro w9; go_simp; all_goals with_reducible rfl)
     try simp only [Act.put, List.setIfInBounds_toArray, List.set_cons_zero, List.set_cons_succ]
     refine wpAnyIn_ready (rs := [5, 7]) (by kernel_rfl) (by simp) ?_
     refine AllReadyIn.cons (o := { dst := some 17, op := Op.load 9 (Operand.tmp 16), type := 9, pos := "header.go:107", after := #[{ on := 4, ground := Ground.data }, { on := 3, ground := Ground.guard }], guard := some (3, true) }) rfl (fun K hK => ?_) (AllReadyIn.cons (o := { dst := some 19, op := Op.load 9 (Operand.tmp 2), type := 9, pos := "header.go:107", after := #[{ on := 3, ground := Ground.guard }], guard := some (3, true) }) rfl (fun K hK => ?_) AllReadyIn.nil)
     ·have HC := Lib.hid hK
      clear hK
      go_simp
      refine HC.out _ _ ?_
      clear HC K
      try simp only [Act.put, List.setIfInBounds_toArray, List.set_cons_zero, List.set_cons_succ]
      refine wpAnyIn_ready (rs := [6, 7]) (by kernel_rfl) (by simp) ?_
      refine AllReadyIn.cons (o := { dst := some 18, op := Op.call { callee := Callee.value (Operand.func 196), args := #[Operand.tmp 17], argTypes := #[9] }, type := 9, pos := "header.go:107", after := #[{ on := 5, ground := Ground.data }, { on := 3, ground := Ground.chain }, { on := 3, ground := Ground.guard }], guard := some (3, true) }) rfl (fun K hK => ?_) (AllReadyIn.cons (o := { dst := some 19, op := Op.load 9 (Operand.tmp 2), type := 9, pos := "header.go:107", after := #[{ on := 3, ground := Ground.guard }], guard := some (3, true) }) rfl (fun K hK => ?_) AllReadyIn.nil)
      ·have HC := Lib.hid hK
       clear hK
       go_simp
       (first | refine ⟨trivial, ?_⟩ | skip)
       refine (callsIn_wide.2 (HSM.out _)).mono ?_
       rintro e V1 ⟨rfl, hb⟩
       have HXV1 := Lib.hid ((hb.block wr.heap.size (heap_lt HXV0.out)).trans HXV0.out)
       have HBV1 := Lib.hid (HBV0.out.trans (hb.mono (Nat.le_trans hn0 HBV0.out.size)))
       have HJV1 := Lib.hid (HJ.out _ _ _ HJV0.out hb)
       clear hb
       have pV10 := cells_at HXV1.out 0 (u := .string (ba f1)) rfl
       have pV11 := cells_at HXV1.out 1 (u := .string (ba f2)) rfl
       have pV13 := cells_at HXV1.out 3 (u := .bool false) rfl
       have pV1k := HK.out _ HBV1.out
       refine HC.out _ _ ?_
       clear HC K
       try simp only [Act.put, List.setIfInBounds_toArray, List.set_cons_zero, List.set_cons_succ]
       refine wpAnyIn_ready (rs := [7]) (by kernel_rfl) (by simp) ?_
       refine AllReadyIn.cons (o := { dst := some 19, op := Op.load 9 (Operand.tmp 2), type := 9, pos := "header.go:107", after := #[{ on := 3, ground := Ground.guard }], guard := some (3, true) }) rfl (fun K hK => ?_) AllReadyIn.nil
       have HC := Lib.hid hK
       clear hK
       go_simp
       refine HC.out _ _ ?_
       clear HC K
       try simp only [Act.put, List.setIfInBounds_toArray, List.set_cons_zero, List.set_cons_succ]
       refine wpAnyIn_take (i := 8) (oi := { dst := some 20, op := Op.binOp BinOp.eql 9 (Operand.tmp 18) (Operand.tmp 19) 9, type := 4, pos := "header.go:107", after := #[{ on := 6, ground := Ground.data }, { on := 7, ground := Ground.data }, { on := 3, ground := Ground.guard }], guard := some (3, true) }) (v := ?_) rfl rfl (by kernel_rfl) (by kernel_rfl) (by kernel_rfl) (fun _ _ _ h => h) ⟨Or.inl ⟨by rfl, ?_⟩, fun _ => rfl⟩ ?_
       rotate_left
       ·(intro w9; go_simp; all_goals with_reducible rfl)
       try simp only [Act.put, List.setIfInBounds_toArray, List.set_cons_zero, List.set_cons_succ]
       refine wpAnyIn_take (i := 9) (oi := { dst := some 21, op := Op.pick (Operand.tmp 15) (Operand.tmp 20) (Operand.const (Value.bool false)), type := 4, pos := "header.go:107", after := #[{ on := 3, ground := Ground.data }, { on := 8, ground := Ground.data }], guard := none }) (v := ?_) rfl rfl (by kernel_rfl) (by kernel_rfl) (by kernel_rfl) (fun _ _ _ h => h) ⟨Or.inl ⟨by rfl, ?_⟩, fun _ => rfl⟩ ?_
       rotate_left
       ·(intro w9; go_simp; all_goals with_reducible rfl)
       try simp only [Act.put, List.setIfInBounds_toArray, List.set_cons_zero, List.set_cons_succ]
       refine wpAnyIn_take (i := 10) (oi := { dst := some 22, op := Op.move (Operand.tmp 21), type := 4, pos := "header.go:107", after := #[{ on := 9, ground := Ground.data }, { on := 6, ground := Ground.chain }], guard := none }) (v := ?_) rfl rfl (by kernel_rfl) (by kernel_rfl) (by kernel_rfl) (fun _ _ _ h => h) ⟨Or.inl ⟨by rfl, ?_⟩, fun _ => rfl⟩ ?_
       rotate_left
       ·(intro w9; go_simp; all_goals with_reducible rfl)
       try simp only [Act.put, List.setIfInBounds_toArray, List.set_cons_zero, List.set_cons_succ]
       refine wpAnyIn_take (i := 11) (oi := { dst := some 23, op := Op.move (Operand.tmp 0), type := 28, pos := "header.go:107", after := #[{ on := 10, ground := Ground.guard }], guard := some (10, true) }) (v := ?_) rfl rfl (by kernel_rfl) (by kernel_rfl) (by kernel_rfl) (fun _ _ _ h => h) ⟨Or.inl ⟨by rfl, ?_⟩, fun _ => rfl⟩ ?_
       rotate_left
       ·(intro w9; go_simp; all_goals with_reducible rfl)
       try simp only [Act.put, List.setIfInBounds_toArray, List.set_cons_zero, List.set_cons_succ]
       refine wpAnyIn_take (i := 12) (oi := { dst := some 24, op := Op.fieldAddr 162 (Operand.tmp 5) 1, type := 0, pos := "header.go:107", after := #[{ on := 10, ground := Ground.guard }], guard := some (10, true) }) (v := ?_) rfl rfl (by kernel_rfl) (by kernel_rfl) (by kernel_rfl) (fun _ _ _ h => h) ⟨Or.inl ⟨by rfl, ?_⟩, fun _ => rfl⟩ ?_
       rotate_left
       ·(intro w9; go_simp; all_goals with_reducible rfl)
       try simp only [Act.put, List.setIfInBounds_toArray, List.set_cons_zero, List.set_cons_succ]
       refine wpAnyIn_ready (rs := [13]) (by kernel_rfl) (by simp) ?_
       refine AllReadyIn.cons (o := { dst := some 25, op := Op.load 9 (Operand.tmp 24), type := 9, pos := "header.go:107", after := #[{ on := 12, ground := Ground.data }, { on := 10, ground := Ground.guard }], guard := some (10, true) }) rfl (fun K hK => ?_) AllReadyIn.nil
       have HC := Lib.hid hK
       clear hK
       go_simp
       refine HC.out _ _ ?_
       clear HC K
       try simp only [Act.put, List.setIfInBounds_toArray, List.set_cons_zero, List.set_cons_succ]
       refine wpAnyIn_ready (rs := [14]) (by kernel_rfl) (by simp) ?_
       refine AllReadyIn.cons (o := { dst := some 26, op := Op.call { callee := Callee.value (Operand.func 198), args := #[Operand.tmp 25], argTypes := #[9] }, type := 9, pos := "header.go:107", after := #[{ on := 13, ground := Ground.data }, { on := 10, ground := Ground.chain }, { on := 10, ground := Ground.guard }], guard := some (10, true) }) rfl (fun K hK => ?_) AllReadyIn.nil
       have HC := Lib.hid hK
       clear hK
       go_simp
       (first | refine ⟨trivial, ?_⟩ | skip)
       refine (callsIn_wide.2 (HUN.out _ HBV1.out)).mono ?_
       rintro e V2 ⟨rfl, hb⟩
       have HXV2 := Lib.hid ((hb.block wr.heap.size (heap_lt HXV1.out)).trans HXV1.out)
       have HBV2 := Lib.hid (HBV1.out.trans (hb.mono (Nat.le_trans hn0 HBV1.out.size)))
       have HJV2 := Lib.hid (HJ.out _ _ _ HJV1.out hb)
       clear hb
       have pV20 := cells_at HXV2.out 0 (u := .string (ba f1)) rfl
       have pV21 := cells_at HXV2.out 1 (u := .string (ba f2)) rfl
       have pV23 := cells_at HXV2.out 3 (u := .bool false) rfl
       have pV2k := HK.out _ HBV2.out
       refine HC.out _ _ ?_
       clear HC K
       try simp only [Act.put, List.setIfInBounds_toArray, List.set_cons_zero, List.set_cons_succ]
       refine wpAnyIn_ready (rs := [15]) (by kernel_rfl) (by simp) ?_
       refine AllReadyIn.cons (o := { dst := some 27, op := Op.call { callee := Callee.value (Operand.func 68), args := #[Operand.tmp 26, Operand.const (Value.string { data := #[32, 9] })], argTypes := #[9, 9] }, type := 9, pos := "header.go:107", after := #[{ on := 14, ground := Ground.data }, { on := 14, ground := Ground.chain }, { on := 10, ground := Ground.guard }], guard := some (10, true) }) rfl (fun K hK => ?_) AllReadyIn.nil
       have HC := Lib.hid hK
       clear hK
       go_simp
       (first | refine ⟨trivial, ?_⟩ | skip)
       refine (callsIn_wide.2 (HTR.out V2)).mono ?_
       rintro e V3 ⟨rfl, hb⟩
       have HXV3 := Lib.hid ((hb.block wr.heap.size (heap_lt HXV2.out)).trans HXV2.out)
       have HBV3 := Lib.hid (HBV2.out.trans (hb.mono (Nat.le_trans hn0 HBV2.out.size)))
       have HJV3 := Lib.hid (HJ.out _ _ _ HJV2.out hb)
       clear hb
       have pV30 := cells_at HXV3.out 0 (u := .string (ba f1)) rfl
       have pV31 := cells_at HXV3.out 1 (u := .string (ba f2)) rfl
       have pV33 := cells_at HXV3.out 3 (u := .bool false) rfl
       have pV3k := HK.out _ HBV3.out
       refine HC.out _ _ ?_
       clear HC K
       try simp only [Act.put, List.setIfInBounds_toArray, List.set_cons_zero, List.set_cons_succ]
       obtain ⟨fn, tmps, assign, body, hy, hR⟩ := HY.out _ (Lib.trimS (unfoldP f2) blanksP) V3 HJV3.out HLEN.out
       refine wpAnyIn_ready (rs := [16]) (by kernel_rfl) (by simp) ?_
       refine AllReadyIn.cons (o := { dst := some 28, op := Op.call { callee := Callee.value (Operand.tmp 23), args := #[Operand.tmp 27], argTypes := #[9] }, type := 4, pos := "header.go:107", after := #[{ on := 11, ground := Ground.data }, { on := 15, ground := Ground.data }, { on := 15, ground := Ground.chain }, { on := 10, ground := Ground.guard }], guard := some (10, true) }) rfl (fun K hK => ?_) AllReadyIn.nil
       have HC := Lib.hid hK
       clear hK
       go_simp
       (first | refine hR.mono ?_ | (refine ⟨fun h => (by cases h), ?_⟩; refine hR.mono ?_) | (refine ⟨trivial, ?_⟩; refine hR.mono ?_))
       rintro e V4 (⟨rfl, hJ4, hb4⟩ | ⟨rfl, hJx4⟩)
       ·have HJ4 := Lib.hid hJ4
        have HB4 := Lib.hid (HBV3.out.trans hb4)
        clear hJ4 hb4 hR
        refine HC.out _ _ ?_
        clear HC K
        try simp only [Act.put, List.setIfInBounds_toArray, List.set_cons_zero, List.set_cons_succ]
        refine wpAnyIn_take (i := 17) (oi := { dst := some 29, op := Op.unOp UnOp.not 4 (Operand.tmp 28), type := 4, pos := "header.go:107", after := #[{ on := 16, ground := Ground.data }, { on := 10, ground := Ground.guard }], guard := some (10, true) }) (v := ?_) rfl rfl (by kernel_rfl) (by kernel_rfl) (by kernel_rfl) (fun _ _ _ h => h) ⟨Or.inl ⟨by rfl, ?_⟩, fun _ => rfl⟩ ?_
        rotate_left
        ·(intro w9; go_simp; all_goals with_reducible rfl)
        try simp only [Act.put, List.setIfInBounds_toArray, List.set_cons_zero, List.set_cons_succ]
        refine wpAnyIn_take (i := 18) (oi := { dst := some 30, op := Op.pick (Operand.tmp 22) (Operand.tmp 29) (Operand.const (Value.bool false)), type := 4, pos := "header.go:107", after := #[{ on := 10, ground := Ground.data }, { on := 17, ground := Ground.data }], guard := none }) (v := ?_) rfl rfl (by kernel_rfl) (by kernel_rfl) (by kernel_rfl) (fun _ _ _ h => h) ⟨Or.inl ⟨by rfl, ?_⟩, fun _ => rfl⟩ ?_
        rotate_left
        ·(intro w9; go_simp; all_goals with_reducible rfl)
        try simp only [Act.put, List.setIfInBounds_toArray, List.set_cons_zero, List.set_cons_succ]
        refine wpAnyIn_done (by kernel_rfl) ?_ _
        gi_wp2
        go_roundw
        case rel => exact ⟨k + 1, _, rfl, by omega, by go_num, Lib.hid ⟨by rw [HV.out]; exact HJ4.out, HB4.out⟩⟩
        case measure => simp [intOf] <;> omega
       ·have HJ4 := Lib.hid hJx4
        clear hJx4 hR
        refine HC.out _ _ ?_
        clear HC K
        try simp only [Act.put, List.setIfInBounds_toArray, List.set_cons_zero, List.set_cons_succ]
        refine wpAnyIn_take (i := 17) (oi := { dst := some 29, op := Op.unOp UnOp.not 4 (Operand.tmp 28), type := 4, pos := "header.go:107", after := #[{ on := 16, ground := Ground.data }, { on := 10, ground := Ground.guard }], guard := some (10, true) }) (v := ?_) rfl rfl (by kernel_rfl) (by kernel_rfl) (by kernel_rfl) (fun _ _ _ h => h) ⟨Or.inl ⟨by rfl, ?_⟩, fun _ => rfl⟩ ?_
        rotate_left
        ·(intro w9; go_simp; all_goals with_reducible rfl)
        try simp only [Act.put, List.setIfInBounds_toArray, List.set_cons_zero, List.set_cons_succ]
        refine wpAnyIn_take (i := 18) (oi := { dst := some 30, op := Op.pick (Operand.tmp 22) (Operand.tmp 29) (Operand.const (Value.bool false)), type := 4, pos := "header.go:107", after := #[{ on := 10, ground := Ground.data }, { on := 17, ground := Ground.data }], guard := none }) (v := ?_) rfl rfl (by kernel_rfl) (by kernel_rfl) (by kernel_rfl) (fun _ _ _ h => h) ⟨Or.inl ⟨by rfl, ?_⟩, fun _ => rfl⟩ ?_
        rotate_left
        ·(intro w9; go_simp; all_goals with_reducible rfl)
        try simp only [Act.put, List.setIfInBounds_toArray, List.set_cons_zero, List.set_cons_succ]
        refine wpAnyIn_done (by kernel_rfl) ?_ _
        gi_wp2
        refine bodyPost_ret (results_none rfl _ _ _) rfl ?_
        exact ⟨⟨_, rfl⟩, .inr ⟨_, HPR.out, HJ4.out⟩⟩
      ·have HC := Lib.hid hK
       clear hK
       go_simp
       refine HC.out _ _ ?_
       clear HC K
       try simp only [Act.put, List.setIfInBounds_toArray, List.set_cons_zero, List.set_cons_succ]
       refine wpAnyIn_ready (rs := [6]) (by kernel_rfl) (by simp) ?_
       refine AllReadyIn.cons (o := { dst := some 18, op := Op.call { callee := Callee.value (Operand.func 196), args := #[Operand.tmp 17], argTypes := #[9] }, type := 9, pos := "header.go:107", after := #[{ on := 5, ground := Ground.data }, { on := 3, ground := Ground.chain }, { on := 3, ground := Ground.guard }], guard := some (3, true) }) rfl (fun K hK => ?_) AllReadyIn.nil
       have HC := Lib.hid hK
       clear hK
       go_simp
       (first | refine ⟨trivial, ?_⟩ | skip)
       refine (callsIn_wide.2 (HSM.out _)).mono ?_
       rintro e V1 ⟨rfl, hb⟩
       have HXV1 := Lib.hid ((hb.block wr.heap.size (heap_lt HXV0.out)).trans HXV0.out)
       have HBV1 := Lib.hid (HBV0.out.trans (hb.mono (Nat.le_trans hn0 HBV0.out.size)))
       have HJV1 := Lib.hid (HJ.out _ _ _ HJV0.out hb)
       clear hb
       have pV10 := cells_at HXV1.out 0 (u := .string (ba f1)) rfl
       have pV11 := cells_at HXV1.out 1 (u := .string (ba f2)) rfl
       have pV13 := cells_at HXV1.out 3 (u := .bool false) rfl
       have pV1k := HK.out _ HBV1.out
       refine HC.out _ _ ?_
       clear HC K
       try simp only [Act.put, List.setIfInBounds_toArray, List.set_cons_zero, List.set_cons_succ]
       refine wpAnyIn_take (i := 8) (oi := { dst := some 20, op := Op.binOp BinOp.eql 9 (Operand.tmp 18) (Operand.tmp 19) 9, type := 4, pos := "header.go:107", after := #[{ on := 6, ground := Ground.data }, { on := 7, ground := Ground.data }, { on := 3, ground := Ground.guard }], guard := some (3, true) }) (v := ?_) rfl rfl (by kernel_rfl) (by kernel_rfl) (by kernel_rfl) (fun _ _ _ h => h) ⟨Or.inl ⟨by rfl, ?_⟩, fun _ => rfl⟩ ?_
       rotate_left
       ·(intro w9; go_simp; all_goals with_reducible rfl)
       try simp only [Act.put, List.setIfInBounds_toArray, List.set_cons_zero, List.set_cons_succ]
       refine wpAnyIn_take (i := 9) (oi := { dst := some 21, op := Op.pick (Operand.tmp 15) (Operand.tmp 20) (Operand.const (Value.bool false)), type := 4, pos := "header.go:107", after := #[{ on := 3, ground := Ground.data }, { on := 8, ground := Ground.data }], guard := none }) (v := ?_) rfl rfl (by kernel_rfl) (by kernel_rfl) (by kernel_rfl) (fun _ _ _ h => h) ⟨Or.inl ⟨by rfl, ?_⟩, fun _ => rfl⟩ ?_
       rotate_left
       ·(intro w9; go_simp; all_goals with_reducible rfl)
       try simp only [Act.put, List.setIfInBounds_toArray, List.set_cons_zero, List.set_cons_succ]
       refine wpAnyIn_take (i := 10) (oi := { dst := some 22, op := Op.move (Operand.tmp 21), type := 4, pos := "header.go:107", after := #[{ on := 9, ground := Ground.data }, { on := 6, ground := Ground.chain }], guard := none }) (v := ?_) rfl rfl (by kernel_rfl) (by kernel_rfl) (by kernel_rfl) (fun _ _ _ h => h) ⟨Or.inl ⟨by rfl, ?_⟩, fun _ => rfl⟩ ?_
       rotate_left
       ·(intro w9; go_simp; all_goals with_reducible rfl)
       try simp only [Act.put, List.setIfInBounds_toArray, List.set_cons_zero, List.set_cons_succ]
       refine wpAnyIn_take (i := 11) (oi := { dst := some 23, op := Op.move (Operand.tmp 0), type := 28, pos := "header.go:107", after := #[{ on := 10, ground := Ground.guard }], guard := some (10, true) }) (v := ?_) rfl rfl (by kernel_rfl) (by kernel_rfl) (by kernel_rfl) (fun _ _ _ h => h) ⟨Or.inl ⟨by rfl, ?_⟩, fun _ => rfl⟩ ?_
       rotate_left
       ·(intro w9; go_simp; all_goals with_reducible rfl)
       try simp only [Act.put, List.setIfInBounds_toArray, List.set_cons_zero, List.set_cons_succ]
       refine wpAnyIn_take (i := 12) (oi := { dst := some 24, op := Op.fieldAddr 162 (Operand.tmp 5) 1, type := 0, pos := "header.go:107", after := #[{ on := 10, ground := Ground.guard }], guard := some (10, true) }) (v := ?_) rfl rfl (by kernel_rfl) (by kernel_rfl) (by kernel_rfl) (fun _ _ _ h => h) ⟨Or.inl ⟨by rfl, ?_⟩, fun _ => rfl⟩ ?_
       rotate_left
       ·(intro w9; go_simp; all_goals with_reducible rfl)
       try simp only [Act.put, List.setIfInBounds_toArray, List.set_cons_zero, List.set_cons_succ]
       refine wpAnyIn_ready (rs := [13]) (by kernel_rfl) (by simp) ?_
       refine AllReadyIn.cons (o := { dst := some 25, op := Op.load 9 (Operand.tmp 24), type := 9, pos := "header.go:107", after := #[{ on := 12, ground := Ground.data }, { on := 10, ground := Ground.guard }], guard := some (10, true) }) rfl (fun K hK => ?_) AllReadyIn.nil
       have HC := Lib.hid hK
       clear hK
       go_simp
       refine HC.out _ _ ?_
       clear HC K
       try simp only [Act.put, List.setIfInBounds_toArray, List.set_cons_zero, List.set_cons_succ]
       refine wpAnyIn_ready (rs := [14]) (by kernel_rfl) (by simp) ?_
       refine AllReadyIn.cons (o := { dst := some 26, op := Op.call { callee := Callee.value (Operand.func 198), args := #[Operand.tmp 25], argTypes := #[9] }, type := 9, pos := "header.go:107", after := #[{ on := 13, ground := Ground.data }, { on := 10, ground := Ground.chain }, { on := 10, ground := Ground.guard }], guard := some (10, true) }) rfl (fun K hK => ?_) AllReadyIn.nil
       have HC := Lib.hid hK
       clear hK
       go_simp
       (first | refine ⟨trivial, ?_⟩ | skip)
       refine (callsIn_wide.2 (HUN.out _ HBV1.out)).mono ?_
       rintro e V2 ⟨rfl, hb⟩
       have HXV2 := Lib.hid ((hb.block wr.heap.size (heap_lt HXV1.out)).trans HXV1.out)
       have HBV2 := Lib.hid (HBV1.out.trans (hb.mono (Nat.le_trans hn0 HBV1.out.size)))
       have HJV2 := Lib.hid (HJ.out _ _ _ HJV1.out hb)
       clear hb
       have pV20 := cells_at HXV2.out 0 (u := .string (ba f1)) rfl
       have pV21 := cells_at HXV2.out 1 (u := .string (ba f2)) rfl
       have pV23 := cells_at HXV2.out 3 (u := .bool false) rfl
       have pV2k := HK.out _ HBV2.out
       refine HC.out _ _ ?_
       clear HC K
       try simp only [Act.put, List.setIfInBounds_toArray, List.set_cons_zero, List.set_cons_succ]
       refine wpAnyIn_ready (rs := [15]) (by kernel_rfl) (by simp) ?_
       refine AllReadyIn.cons (o := { dst := some 27, op := Op.call { callee := Callee.value (Operand.func 68), args := #[Operand.tmp 26, Operand.const (Value.string { data := #[32, 9] })], argTypes := #[9, 9] }, type := 9, pos := "header.go:107", after := #[{ on := 14, ground := Ground.data }, { on := 14, ground := Ground.chain }, { on := 10, ground := Ground.guard }], guard := some (10, true) }) rfl (fun K hK => ?_) AllReadyIn.nil
       have HC := Lib.hid hK
       clear hK
       go_simp
       (first | refine ⟨trivial, ?_⟩ | skip)
       refine (callsIn_wide.2 (HTR.out V2)).mono ?_
       rintro e V3 ⟨rfl, hb⟩
       have HXV3 := Lib.hid ((hb.block wr.heap.size (heap_lt HXV2.out)).trans HXV2.out)
       have HBV3 := Lib.hid (HBV2.out.trans (hb.mono (Nat.le_trans hn0 HBV2.out.size)))
       have HJV3 := Lib.hid (HJ.out _ _ _ HJV2.out hb)
       clear hb
       have pV30 := cells_at HXV3.out 0 (u := .string (ba f1)) rfl
       have pV31 := cells_at HXV3.out 1 (u := .string (ba f2)) rfl
       have pV33 := cells_at HXV3.out 3 (u := .bool false) rfl
       have pV3k := HK.out _ HBV3.out
       refine HC.out _ _ ?_
       clear HC K
       try simp only [Act.put, List.setIfInBounds_toArray, List.set_cons_zero, List.set_cons_succ]
       obtain ⟨fn, tmps, assign, body, hy, hR⟩ := HY.out _ (Lib.trimS (unfoldP f2) blanksP) V3 HJV3.out HLEN.out
       refine wpAnyIn_ready (rs := [16]) (by kernel_rfl) (by simp) ?_
       refine AllReadyIn.cons (o := { dst := some 28, op := Op.call { callee := Callee.value (Operand.tmp 23), args := #[Operand.tmp 27], argTypes := #[9] }, type := 4, pos := "header.go:107", after := #[{ on := 11, ground := Ground.data }, { on := 15, ground := Ground.data }, { on := 15, ground := Ground.chain }, { on := 10, ground := Ground.guard }], guard := some (10, true) }) rfl (fun K hK => ?_) AllReadyIn.nil
       have HC := Lib.hid hK
       clear hK
       go_simp
       (first | refine hR.mono ?_ | (refine ⟨fun h => (by cases h), ?_⟩; refine hR.mono ?_) | (refine ⟨trivial, ?_⟩; refine hR.mono ?_))
       rintro e V4 (⟨rfl, hJ4, hb4⟩ | ⟨rfl, hJx4⟩)
       ·have HJ4 := Lib.hid hJ4
        have HB4 := Lib.hid (HBV3.out.trans hb4)
        clear hJ4 hb4 hR
        refine HC.out _ _ ?_
        clear HC K
        try simp only [Act.put, List.setIfInBounds_toArray, List.set_cons_zero, List.set_cons_succ]
        refine wpAnyIn_take (i := 17) (oi := { dst := some 29, op := Op.unOp UnOp.not 4 (Operand.tmp 28), type := 4, pos := "header.go:107", after := #[{ on := 16, ground := Ground.data }, { on := 10, ground := Ground.guard }], guard := some (10, true) }) (v := ?_) rfl rfl (by kernel_rfl) (by kernel_rfl) (by kernel_rfl) (fun _ _ _ h => h) ⟨Or.inl ⟨by rfl, ?_⟩, fun _ => rfl⟩ ?_
        rotate_left
        ·(intro w9; go_simp; all_goals with_reducible rfl)
        try simp only [Act.put, List.setIfInBounds_toArray, List.set_cons_zero, List.set_cons_succ]
        refine wpAnyIn_take (i := 18) (oi := { dst := some 30, op := Op.pick (Operand.tmp 22) (Operand.tmp 29) (Operand.const (Value.bool false)), type := 4, pos := "header.go:107", after := #[{ on := 10, ground := Ground.data }, { on := 17, ground := Ground.data }], guard := none }) (v := ?_) rfl rfl (by kernel_rfl) (by kernel_rfl) (by kernel_rfl) (fun _ _ _ h => h) ⟨Or.inl ⟨by rfl, ?_⟩, fun _ => rfl⟩ ?_
        rotate_left
        ·(intro w9; go_simp; all_goals with_reducible rfl)
        try simp only [Act.put, List.setIfInBounds_toArray, List.set_cons_zero, List.set_cons_succ]
        refine wpAnyIn_done (by kernel_rfl) ?_ _
        gi_wp2
        go_roundw
        case rel => exact ⟨k + 1, _, rfl, by omega, by go_num, Lib.hid ⟨by rw [HV.out]; exact HJ4.out, HB4.out⟩⟩
        case measure => simp [intOf] <;> omega
       ·have HJ4 := Lib.hid hJx4
        clear hJx4 hR
        refine HC.out _ _ ?_
        clear HC K
        try simp only [Act.put, List.setIfInBounds_toArray, List.set_cons_zero, List.set_cons_succ]
        refine wpAnyIn_take (i := 17) (oi := { dst := some 29, op := Op.unOp UnOp.not 4 (Operand.tmp 28), type := 4, pos := "header.go:107", after := #[{ on := 16, ground := Ground.data }, { on := 10, ground := Ground.guard }], guard := some (10, true) }) (v := ?_) rfl rfl (by kernel_rfl) (by kernel_rfl) (by kernel_rfl) (fun _ _ _ h => h) ⟨Or.inl ⟨by rfl, ?_⟩, fun _ => rfl⟩ ?_
        rotate_left
        ·(intro w9; go_simp; all_goals with_reducible rfl)
        try simp only [Act.put, List.setIfInBounds_toArray, List.set_cons_zero, List.set_cons_succ]
        refine wpAnyIn_take (i := 18) (oi := { dst := some 30, op := Op.pick (Operand.tmp 22) (Operand.tmp 29) (Operand.const (Value.bool false)), type := 4, pos := "header.go:107", after := #[{ on := 10, ground := Ground.data }, { on := 17, ground := Ground.data }], guard := none }) (v := ?_) rfl rfl (by kernel_rfl) (by kernel_rfl) (by kernel_rfl) (fun _ _ _ h => h) ⟨Or.inl ⟨by rfl, ?_⟩, fun _ => rfl⟩ ?_
        rotate_left
        ·(intro w9; go_simp; all_goals with_reducible rfl)
        try simp only [Act.put, List.setIfInBounds_toArray, List.set_cons_zero, List.set_cons_succ]
        refine wpAnyIn_done (by kernel_rfl) ?_ _
        gi_wp2
        refine bodyPost_ret (results_none rfl _ _ _) rfl ?_
        exact ⟨⟨_, rfl⟩, .inr ⟨_, HPR.out, HJ4.out⟩⟩
     ·have HC := Lib.hid hK
      clear hK
      go_simp
      refine HC.out _ _ ?_
      clear HC K
      try simp only [Act.put, List.setIfInBounds_toArray, List.set_cons_zero, List.set_cons_succ]
      refine wpAnyIn_ready (rs := [5]) (by kernel_rfl) (by simp) ?_
      refine AllReadyIn.cons (o := { dst := some 17, op := Op.load 9 (Operand.tmp 16), type := 9, pos := "header.go:107", after := #[{ on := 4, ground := Ground.data }, { on := 3, ground := Ground.guard }], guard := some (3, true) }) rfl (fun K hK => ?_) AllReadyIn.nil
      have HC := Lib.hid hK
      clear hK
      go_simp
      refine HC.out _ _ ?_
      clear HC K
      try simp only [Act.put, List.setIfInBounds_toArray, List.set_cons_zero, List.set_cons_succ]
      refine wpAnyIn_ready (rs := [6]) (by kernel_rfl) (by simp) ?_
      refine AllReadyIn.cons (o := { dst := some 18, op := Op.call { callee := Callee.value (Operand.func 196), args := #[Operand.tmp 17], argTypes := #[9] }, type := 9, pos := "header.go:107", after := #[{ on := 5, ground := Ground.data }, { on := 3, ground := Ground.chain }, { on := 3, ground := Ground.guard }], guard := some (3, true) }) rfl (fun K hK => ?_) AllReadyIn.nil
      have HC := Lib.hid hK
      clear hK
      go_simp
      (first | refine ⟨trivial, ?_⟩ | skip)
      refine (callsIn_wide.2 (HSM.out _)).mono ?_
      rintro e V1 ⟨rfl, hb⟩
      have HXV1 := Lib.hid ((hb.block wr.heap.size (heap_lt HXV0.out)).trans HXV0.out)
      have HBV1 := Lib.hid (HBV0.out.trans (hb.mono (Nat.le_trans hn0 HBV0.out.size)))
      have HJV1 := Lib.hid (HJ.out _ _ _ HJV0.out hb)
      clear hb
      have pV10 := cells_at HXV1.out 0 (u := .string (ba f1)) rfl
      have pV11 := cells_at HXV1.out 1 (u := .string (ba f2)) rfl
      have pV13 := cells_at HXV1.out 3 (u := .bool false) rfl
      have pV1k := HK.out _ HBV1.out
      refine HC.out _ _ ?_
      clear HC K
      try simp only [Act.put, List.setIfInBounds_toArray, List.set_cons_zero, List.set_cons_succ]
      refine wpAnyIn_take (i := 8) (oi := { dst := some 20, op := Op.binOp BinOp.eql 9 (Operand.tmp 18) (Operand.tmp 19) 9, type := 4, pos := "header.go:107", after := #[{ on := 6, ground := Ground.data }, { on := 7, ground := Ground.data }, { on := 3, ground := Ground.guard }], guard := some (3, true) }) (v := ?_) rfl rfl (by kernel_rfl) (by kernel_rfl) (by kernel_rfl) (fun _ _ _ h => h) ⟨Or.inl ⟨by rfl, ?_⟩, fun _ => rfl⟩ ?_
      rotate_left
      ·(intro w9; go_simp; all_goals with_reducible rfl)
      try simp only [Act.put, List.setIfInBounds_toArray, List.set_cons_zero, List.set_cons_succ]
      refine wpAnyIn_take (i := 9) (oi := { dst := some 21, op := Op.pick (Operand.tmp 15) (Operand.tmp 20) (Operand.const (Value.bool false)), type := 4, pos := "header.go:107", after := #[{ on := 3, ground := Ground.data }, { on := 8, ground := Ground.data }], guard := none }) (v := ?_) rfl rfl (by kernel_rfl) (by kernel_rfl) (by kernel_rfl) (fun _ _ _ h => h) ⟨Or.inl ⟨by rfl, ?_⟩, fun _ => rfl⟩ ?_
      rotate_left
      ·(intro w9; go_simp; all_goals with_reducible rfl)
      try simp only [Act.put, List.setIfInBounds_toArray, List.set_cons_zero, List.set_cons_succ]
      refine wpAnyIn_take (i := 10) (oi := { dst := some 22, op := Op.move (Operand.tmp 21), type := 4, pos := "header.go:107", after := #[{ on := 9, ground := Ground.data }, { on := 6, ground := Ground.chain }], guard := none }) (v := ?_) rfl rfl (by kernel_rfl) (by kernel_rfl) (by kernel_rfl) (fun _ _ _ h => h) ⟨Or.inl ⟨by rfl, ?_⟩, fun _ => rfl⟩ ?_
      rotate_left
      ·(intro w9; go_simp; all_goals with_reducible rfl)
      try simp only [Act.put, List.setIfInBounds_toArray, List.set_cons_zero, List.set_cons_succ]
      refine wpAnyIn_take (i := 11) (oi := { dst := some 23, op := Op.move (Operand.tmp 0), type := 28, pos := "header.go:107", after := #[{ on := 10, ground := Ground.guard }], guard := some (10, true) }) (v := ?_) rfl rfl (by kernel_rfl) (by kernel_rfl) (by kernel_rfl) (fun _ _ _ h => h) ⟨Or.inl ⟨by rfl, ?_⟩, fun _ => rfl⟩ ?_
      rotate_left
      ·(intro w9; go_simp; all_goals with_reducible rfl)
      try simp only [Act.put, List.setIfInBounds_toArray, List.set_cons_zero, List.set_cons_succ]
      refine wpAnyIn_take (i := 12) (oi := { dst := some 24, op := Op.fieldAddr 162 (Operand.tmp 5) 1, type := 0, pos := "header.go:107", after := #[{ on := 10, ground := Ground.guard }], guard := some (10, true) }) (v := ?_) rfl rfl (by kernel_rfl) (by kernel_rfl) (by kernel_rfl) (fun _ _ _ h => h) ⟨Or.inl ⟨by rfl, ?_⟩, fun _ => rfl⟩ ?_
      rotate_left
      ·(intro w9; go_simp; all_goals with_reducible rfl)
      try simp only [Act.put, List.setIfInBounds_toArray, List.set_cons_zero, List.set_cons_succ]
      refine wpAnyIn_ready (rs := [13]) (by kernel_rfl) (by simp) ?_
      refine AllReadyIn.cons (o := { dst := some 25, op := Op.load 9 (Operand.tmp 24), type := 9, pos := "header.go:107", after := #[{ on := 12, ground := Ground.data }, { on := 10, ground := Ground.guard }], guard := some (10, true) }) rfl (fun K hK => ?_) AllReadyIn.nil
      have HC := Lib.hid hK
      clear hK
      go_simp
      refine HC.out _ _ ?_
      clear HC K
      try simp only [Act.put, List.setIfInBounds_toArray, List.set_cons_zero, List.set_cons_succ]
      refine wpAnyIn_ready (rs := [14]) (by kernel_rfl) (by simp) ?_
      refine AllReadyIn.cons (o := { dst := some 26, op := Op.call { callee := Callee.value (Operand.func 198), args := #[Operand.tmp 25], argTypes := #[9] }, type := 9, pos := "header.go:107", after := #[{ on := 13, ground := Ground.data }, { on := 10, ground := Ground.chain }, { on := 10, ground := Ground.guard }], guard := some (10, true) }) rfl (fun K hK => ?_) AllReadyIn.nil
      have HC := Lib.hid hK
      clear hK
      go_simp
      (first | refine ⟨trivial, ?_⟩ | skip)
      refine (callsIn_wide.2 (HUN.out _ HBV1.out)).mono ?_
      rintro e V2 ⟨rfl, hb⟩
      have HXV2 := Lib.hid ((hb.block wr.heap.size (heap_lt HXV1.out)).trans HXV1.out)
      have HBV2 := Lib.hid (HBV1.out.trans (hb.mono (Nat.le_trans hn0 HBV1.out.size)))
      have HJV2 := Lib.hid (HJ.out _ _ _ HJV1.out hb)
      clear hb
      have pV20 := cells_at HXV2.out 0 (u := .string (ba f1)) rfl
      have pV21 := cells_at HXV2.out 1 (u := .string (ba f2)) rfl
      have pV23 := cells_at HXV2.out 3 (u := .bool false) rfl
      have pV2k := HK.out _ HBV2.out
      refine HC.out _ _ ?_
      clear HC K
      try simp only [Act.put, List.setIfInBounds_toArray, List.set_cons_zero, List.set_cons_succ]
      refine wpAnyIn_ready (rs := [15]) (by kernel_rfl) (by simp) ?_
      refine AllReadyIn.cons (o := { dst := some 27, op := Op.call { callee := Callee.value (Operand.func 68), args := #[Operand.tmp 26, Operand.const (Value.string { data := #[32, 9] })], argTypes := #[9, 9] }, type := 9, pos := "header.go:107", after := #[{ on := 14, ground := Ground.data }, { on := 14, ground := Ground.chain }, { on := 10, ground := Ground.guard }], guard := some (10, true) }) rfl (fun K hK => ?_) AllReadyIn.nil
      have HC := Lib.hid hK
      clear hK
      go_simp
      (first | refine ⟨trivial, ?_⟩ | skip)
      refine (callsIn_wide.2 (HTR.out V2)).mono ?_
      rintro e V3 ⟨rfl, hb⟩
      have HXV3 := Lib.hid ((hb.block wr.heap.size (heap_lt HXV2.out)).trans HXV2.out)
      have HBV3 := Lib.hid (HBV2.out.trans (hb.mono (Nat.le_trans hn0 HBV2.out.size)))
      have HJV3 := Lib.hid (HJ.out _ _ _ HJV2.out hb)
      clear hb
      have pV30 := cells_at HXV3.out 0 (u := .string (ba f1)) rfl
      have pV31 := cells_at HXV3.out 1 (u := .string (ba f2)) rfl
      have pV33 := cells_at HXV3.out 3 (u := .bool false) rfl
      have pV3k := HK.out _ HBV3.out
      refine HC.out _ _ ?_
      clear HC K
      try simp only [Act.put, List.setIfInBounds_toArray, List.set_cons_zero, List.set_cons_succ]
      obtain ⟨fn, tmps, assign, body, hy, hR⟩ := HY.out _ (Lib.trimS (unfoldP f2) blanksP) V3 HJV3.out HLEN.out
      refine wpAnyIn_ready (rs := [16]) (by kernel_rfl) (by simp) ?_
      refine AllReadyIn.cons (o := { dst := some 28, op := Op.call { callee := Callee.value (Operand.tmp 23), args := #[Operand.tmp 27], argTypes := #[9] }, type := 4, pos := "header.go:107", after := #[{ on := 11, ground := Ground.data }, { on := 15, ground := Ground.data }, { on := 15, ground := Ground.chain }, { on := 10, ground := Ground.guard }], guard := some (10, true) }) rfl (fun K hK => ?_) AllReadyIn.nil
      have HC := Lib.hid hK
      clear hK
      go_simp
      (first | refine hR.mono ?_ | (refine ⟨fun h => (by cases h), ?_⟩; refine hR.mono ?_) | (refine ⟨trivial, ?_⟩; refine hR.mono ?_))
      rintro e V4 (⟨rfl, hJ4, hb4⟩ | ⟨rfl, hJx4⟩)
      ·have HJ4 := Lib.hid hJ4
       have HB4 := Lib.hid (HBV3.out.trans hb4)
       clear hJ4 hb4 hR
       refine HC.out _ _ ?_
       clear HC K
       try simp only [Act.put, List.setIfInBounds_toArray, List.set_cons_zero, List.set_cons_succ]
       refine wpAnyIn_take (i := 17) (oi := { dst := some 29, op := Op.unOp UnOp.not 4 (Operand.tmp 28), type := 4, pos := "header.go:107", after := #[{ on := 16, ground := Ground.data }, { on := 10, ground := Ground.guard }], guard := some (10, true) }) (v := ?_) rfl rfl (by kernel_rfl) (by kernel_rfl) (by kernel_rfl) (fun _ _ _ h => h) ⟨Or.inl ⟨by rfl, ?_⟩, fun _ => rfl⟩ ?_
       rotate_left
       ·(intro w9; go_simp; all_goals with_reducible rfl)
       try simp only [Act.put, List.setIfInBounds_toArray, List.set_cons_zero, List.set_cons_succ]
       refine wpAnyIn_take (i := 18) (oi := { dst := some 30, op := Op.pick (Operand.tmp 22) (Operand.tmp 29) (Operand.const (Value.bool false)), type := 4, pos := "header.go:107", after := #[{ on := 10, ground := Ground.data }, { on := 17, ground := Ground.data }], guard := none }) (v := ?_) rfl rfl (by kernel_rfl) (by kernel_rfl) (by kernel_rfl) (fun _ _ _ h => h) ⟨Or.inl ⟨by rfl, ?_⟩, fun _ => rfl⟩ ?_
       rotate_left
       ·(intro w9; go_simp; all_goals with_reducible rfl)
       try simp only [Act.put, List.setIfInBounds_toArray, List.set_cons_zero, List.set_cons_succ]
       refine wpAnyIn_done (by kernel_rfl) ?_ _
       gi_wp2
       go_roundw
       case rel => exact ⟨k + 1, _, rfl, by omega, by go_num, Lib.hid ⟨by rw [HV.out]; exact HJ4.out, HB4.out⟩⟩
       case measure => simp [intOf] <;> omega
      ·have HJ4 := Lib.hid hJx4
       clear hJx4 hR
       refine HC.out _ _ ?_
       clear HC K
       try simp only [Act.put, List.setIfInBounds_toArray, List.set_cons_zero, List.set_cons_succ]
       refine wpAnyIn_take (i := 17) (oi := { dst := some 29, op := Op.unOp UnOp.not 4 (Operand.tmp 28), type := 4, pos := "header.go:107", after := #[{ on := 16, ground := Ground.data }, { on := 10, ground := Ground.guard }], guard := some (10, true) }) (v := ?_) rfl rfl (by kernel_rfl) (by kernel_rfl) (by kernel_rfl) (fun _ _ _ h => h) ⟨Or.inl ⟨by rfl, ?_⟩, fun _ => rfl⟩ ?_
       rotate_left
       ·(intro w9; go_simp; all_goals with_reducible rfl)
       try simp only [Act.put, List.setIfInBounds_toArray, List.set_cons_zero, List.set_cons_succ]
       refine wpAnyIn_take (i := 18) (oi := { dst := some 30, op := Op.pick (Operand.tmp 22) (Operand.tmp 29) (Operand.const (Value.bool false)), type := 4, pos := "header.go:107", after := #[{ on := 10, ground := Ground.data }, { on := 17, ground := Ground.data }], guard := none }) (v := ?_) rfl rfl (by kernel_rfl) (by kernel_rfl) (by kernel_rfl) (fun _ _ _ h => h) ⟨Or.inl ⟨by rfl, ?_⟩, fun _ => rfl⟩ ?_
       rotate_left
       ·(intro w9; go_simp; all_goals with_reducible rfl)
       try simp only [Act.put, List.setIfInBounds_toArray, List.set_cons_zero, List.set_cons_succ]
       refine wpAnyIn_done (by kernel_rfl) ?_ _
       gi_wp2
       refine bodyPost_ret (results_none rfl _ _ _) rfl ?_
       exact ⟨⟨_, rfl⟩, .inr ⟨_, HPR.out, HJ4.out⟩⟩
    ·have HV := Lib.hid (HVN.out (by unfold fitB; simp [hfit]))
     have g1 : ((ba (smallP f1)).toList == (ba key).toList) = false := by rw [ba_toList, ba_toList]; simpa using hfit
     have g2 : ¬ (ba (smallP f1)).toList = (ba key).toList := by rw [ba_toList, ba_toList]; exact hfit
     clear HVY HVN hfit HUN HTR
     refine wpIn_region_any (by kernel_rfl) ?_
     change wpAnyIn _ _ _ _ _ _ _ _ _ (World.drew _)
     rw [hV0]
     clear hV0
     have pV00 := cells_at HXV0.out 0 (u := .string (ba f1)) rfl
     have pV01 := cells_at HXV0.out 1 (u := .string (ba f2)) rfl
     have pV03 := cells_at HXV0.out 3 (u := .bool false) rfl
     have pV0k := HK.out _ HBV0.out
     refine wpAnyIn_take (i := 0) (oi := { dst := some 12, op := Op.fieldAddr 162 (Operand.tmp 5) 3, type := 0, pos := "header.go:107", after := #[], guard := none }) (v := ?_) rfl rfl (by kernel_rfl) (by kernel_rfl) (by kernel_rfl) (fun _ _ _ h => h) ⟨Or.inl ⟨by rfl, ?_⟩, fun _ => rfl⟩ ?_
     rotate_left
     ·(intro w9; go_simp; all_goals with_reducible rfl)
     try simp only [Act.put, List.setIfInBounds_toArray, List.set_cons_zero, List.set_cons_succ]
     refine wpAnyIn_ready (rs := [1]) (by kernel_rfl) (by simp) ?_
     refine AllReadyIn.cons (o := { dst := some 13, op := Op.load 4 (Operand.tmp 12), type := 4, pos := "header.go:107", after := #[{ on := 0, ground := Ground.data }], guard := none }) rfl (fun K hK => ?_) AllReadyIn.nil
     have HC := Lib.hid hK
     clear hK
     go_simp
     refine HC.out _ _ ?_
     clear HC K
     try simp only [Act.put, List.setIfInBounds_toArray, List.set_cons_zero, List.set_cons_succ]
     refine wpAnyIn_take (i := 2) (oi := { dst := some 14, op := Op.unOp UnOp.not 4 (Operand.tmp 13), type := 4, pos := "header.go:107", after := #[{ on := 1, ground := Ground.data }], guard := none }) (v := ?_) rfl rfl (by kernel_rfl) (by kernel_rfl) (by kernel_rfl) (fun _ _ _ h => h) ⟨Or.inl ⟨by rfl, ?_⟩, fun _ => rfl⟩ ?_
     rotate_left
     ·(intro w9; go_simp; all_goals with_reducible rfl)
     try simp only [Act.put, List.setIfInBounds_toArray, List.set_cons_zero, List.set_cons_succ]
     refine wpAnyIn_take (i := 3) (oi := { dst := some 15, op := Op.move (Operand.tmp 14), type := 4, pos := "header.go:107", after := #[{ on := 2, ground := Ground.data }], guard := none }) (v := ?_) rfl rfl (by kernel_rfl) (by kernel_rfl) (by kernel_rfl) (fun _ _ _ h => h) ⟨Or.inl ⟨by rfl, ?_⟩, fun _ => rfl⟩ ?_
     rotate_left
     ·(intro w9; go_simp; all_goals with_reducible rfl)
     try simp only [Act.put, List.setIfInBounds_toArray, List.set_cons_zero, List.set_cons_succ]
     refine wpAnyIn_take (i := 4) (oi := { dst := some 16, op := Op.fieldAddr 162 (Operand.tmp 5) 0, type := 0, pos := "header.go:107", after := #[{ on := 3, ground := Ground.guard }], guard := some (3, true) }) (v := ?_) rfl rfl (by kernel_rfl) (by kernel_rfl) (by kernel_rfl) (fun _ _ _ h => h) ⟨Or.inl ⟨by rfl, ?_⟩, fun _ => rfl⟩ ?_
     rotate_left
     ·(intro w9; go_simp; all_goals with_reducible rfl)
     try simp only [Act.put, List.setIfInBounds_toArray, List.set_cons_zero, List.set_cons_succ]
     refine wpAnyIn_ready (rs := [5, 7]) (by kernel_rfl) (by simp) ?_
     refine AllReadyIn.cons (o := { dst := some 17, op := Op.load 9 (Operand.tmp 16), type := 9, pos := "header.go:107", after := #[{ on := 4, ground := Ground.data }, { on := 3, ground := Ground.guard }], guard := some (3, true) }) rfl (fun K hK => ?_) (AllReadyIn.cons (o := { dst := some 19, op := Op.load 9 (Operand.tmp 2), type := 9, pos := "header.go:107", after := #[{ on := 3, ground := Ground.guard }], guard := some (3, true) }) rfl (fun K hK => ?_) AllReadyIn.nil)
     ·have HC := Lib.hid hK
      clear hK
      go_simp
      refine HC.out _ _ ?_
      clear HC K
      try simp only [Act.put, List.setIfInBounds_toArray, List.set_cons_zero, List.set_cons_succ]
      refine wpAnyIn_ready (rs := [6, 7]) (by kernel_rfl) (by simp) ?_
      refine AllReadyIn.cons (o := { dst := some 18, op := Op.call { callee := Callee.value (Operand.func 196), args := #[Operand.tmp 17], argTypes := #[9] }, type := 9, pos := "header.go:107", after := #[{ on := 5, ground := Ground.data }, { on := 3, ground := Ground.chain }, { on := 3, ground := Ground.guard }], guard := some (3, true) }) rfl (fun K hK => ?_) (AllReadyIn.cons (o := { dst := some 19, op := Op.load 9 (Operand.tmp 2), type := 9, pos := "header.go:107", after := #[{ on := 3, ground := Ground.guard }], guard := some (3, true) }) rfl (fun K hK => ?_) AllReadyIn.nil)
      ·have HC := Lib.hid hK
       clear hK
       go_simp
       (first | refine ⟨trivial, ?_⟩ | skip)
       refine (callsIn_wide.2 (HSM.out _)).mono ?_
       rintro e V1 ⟨rfl, hb⟩
       have HXV1 := Lib.hid ((hb.block wr.heap.size (heap_lt HXV0.out)).trans HXV0.out)
       have HBV1 := Lib.hid (HBV0.out.trans (hb.mono (Nat.le_trans hn0 HBV0.out.size)))
       have HJV1 := Lib.hid (HJ.out _ _ _ HJV0.out hb)
       clear hb
       have pV10 := cells_at HXV1.out 0 (u := .string (ba f1)) rfl
       have pV11 := cells_at HXV1.out 1 (u := .string (ba f2)) rfl
       have pV13 := cells_at HXV1.out 3 (u := .bool false) rfl
       have pV1k := HK.out _ HBV1.out
       refine HC.out _ _ ?_
       clear HC K
       try simp only [Act.put, List.setIfInBounds_toArray, List.set_cons_zero, List.set_cons_succ]
       refine wpAnyIn_ready (rs := [7]) (by kernel_rfl) (by simp) ?_
       refine AllReadyIn.cons (o := { dst := some 19, op := Op.load 9 (Operand.tmp 2), type := 9, pos := "header.go:107", after := #[{ on := 3, ground := Ground.guard }], guard := some (3, true) }) rfl (fun K hK => ?_) AllReadyIn.nil
       have HC := Lib.hid hK
       clear hK
       go_simp
       refine HC.out _ _ ?_
       clear HC K
       try simp only [Act.put, List.setIfInBounds_toArray, List.set_cons_zero, List.set_cons_succ]
       refine wpAnyIn_take (i := 8) (oi := { dst := some 20, op := Op.binOp BinOp.eql 9 (Operand.tmp 18) (Operand.tmp 19) 9, type := 4, pos := "header.go:107", after := #[{ on := 6, ground := Ground.data }, { on := 7, ground := Ground.data }, { on := 3, ground := Ground.guard }], guard := some (3, true) }) (v := ?_) rfl rfl (by kernel_rfl) (by kernel_rfl) (by kernel_rfl) (fun _ _ _ h => h) ⟨Or.inl ⟨by rfl, ?_⟩, fun _ => rfl⟩ ?_
       rotate_left
       ·(intro w9; go_simp; all_goals with_reducible rfl)
       try simp only [Act.put, List.setIfInBounds_toArray, List.set_cons_zero, List.set_cons_succ]
       refine wpAnyIn_take (i := 9) (oi := { dst := some 21, op := Op.pick (Operand.tmp 15) (Operand.tmp 20) (Operand.const (Value.bool false)), type := 4, pos := "header.go:107", after := #[{ on := 3, ground := Ground.data }, { on := 8, ground := Ground.data }], guard := none }) (v := ?_) rfl rfl (by kernel_rfl) (by kernel_rfl) (by kernel_rfl) (fun _ _ _ h => h) ⟨Or.inl ⟨by rfl, ?_⟩, fun _ => rfl⟩ ?_
       rotate_left
       ·(intro w9; go_simp; all_goals with_reducible rfl)
       try simp only [Act.put, List.setIfInBounds_toArray, List.set_cons_zero, List.set_cons_succ]
       refine wpAnyIn_take (i := 10) (oi := { dst := some 22, op := Op.move (Operand.tmp 21), type := 4, pos := "header.go:107", after := #[{ on := 9, ground := Ground.data }, { on := 6, ground := Ground.chain }], guard := none }) (v := ?_) rfl rfl (by kernel_rfl) (by kernel_rfl) (by kernel_rfl) (fun _ _ _ h => h) ⟨Or.inl ⟨by rfl, ?_⟩, fun _ => rfl⟩ ?_
       rotate_left
       ·(intro w9; go_simp; all_goals with_reducible rfl)
       try simp only [Act.put, List.setIfInBounds_toArray, List.set_cons_zero, List.set_cons_succ]
       refine wpAnyIn_take (i := 11) (oi := { dst := some 23, op := Op.move (Operand.tmp 0), type := 28, pos := "header.go:107", after := #[{ on := 10, ground := Ground.guard }], guard := some (10, true) }) (v := undef) rfl rfl (by kernel_rfl) (by kernel_rfl) (by kernel_rfl) (fun _ _ _ h => h) ⟨Or.inr ⟨by rfl, rfl⟩, fun _ => rfl⟩ ?_
       try simp only [Act.put, List.setIfInBounds_toArray, List.set_cons_zero, List.set_cons_succ]
       refine wpAnyIn_take (i := 12) (oi := { dst := some 24, op := Op.fieldAddr 162 (Operand.tmp 5) 1, type := 0, pos := "header.go:107", after := #[{ on := 10, ground := Ground.guard }], guard := some (10, true) }) (v := undef) rfl rfl (by kernel_rfl) (by kernel_rfl) (by kernel_rfl) (fun _ _ _ h => h) ⟨Or.inr ⟨by rfl, rfl⟩, fun _ => rfl⟩ ?_
       try simp only [Act.put, List.setIfInBounds_toArray, List.set_cons_zero, List.set_cons_succ]
       refine wpAnyIn_take (i := 13) (oi := { dst := some 25, op := Op.load 9 (Operand.tmp 24), type := 9, pos := "header.go:107", after := #[{ on := 12, ground := Ground.data }, { on := 10, ground := Ground.guard }], guard := some (10, true) }) (v := undef) rfl rfl (by kernel_rfl) (by kernel_rfl) (by kernel_rfl) (fun _ _ _ h => h) ⟨Or.inr ⟨by rfl, rfl⟩, fun _ => rfl⟩ ?_
       try simp only [Act.put, List.setIfInBounds_toArray, List.set_cons_zero, List.set_cons_succ]
       refine wpAnyIn_ready (rs := [14]) (by kernel_rfl) (by simp) ?_
       refine AllReadyIn.cons (o := { dst := some 26, op := Op.call { callee := Callee.value (Operand.func 198), args := #[Operand.tmp 25], argTypes := #[9] }, type := 9, pos := "header.go:107", after := #[{ on := 13, ground := Ground.data }, { on := 10, ground := Ground.chain }, { on := 10, ground := Ground.guard }], guard := some (10, true) }) rfl (fun K hK => ?_) AllReadyIn.nil
       have HC := Lib.hid hK
       clear hK
       go_simp
       (first | refine ⟨trivial, ?_⟩ | refine ⟨fun _ _ => trivial, ?_⟩ | skip)
       refine HC.out _ _ ?_
       clear HC K
       try simp only [Act.put, List.setIfInBounds_toArray, List.set_cons_zero, List.set_cons_succ]
       refine wpAnyIn_ready (rs := [15]) (by kernel_rfl) (by simp) ?_
       refine AllReadyIn.cons (o := { dst := some 27, op := Op.call { callee := Callee.value (Operand.func 68), args := #[Operand.tmp 26, Operand.const (Value.string { data := #[32, 9] })], argTypes := #[9, 9] }, type := 9, pos := "header.go:107", after := #[{ on := 14, ground := Ground.data }, { on := 14, ground := Ground.chain }, { on := 10, ground := Ground.guard }], guard := some (10, true) }) rfl (fun K hK => ?_) AllReadyIn.nil
       have HC := Lib.hid hK
       clear hK
       go_simp
       (first | refine ⟨trivial, ?_⟩ | refine ⟨fun _ _ => trivial, ?_⟩ | skip)
       refine HC.out _ _ ?_
       clear HC K
       try simp only [Act.put, List.setIfInBounds_toArray, List.set_cons_zero, List.set_cons_succ]
       refine wpAnyIn_ready (rs := [16]) (by kernel_rfl) (by simp) ?_
       refine AllReadyIn.cons (o := { dst := some 28, op := Op.call { callee := Callee.value (Operand.tmp 23), args := #[Operand.tmp 27], argTypes := #[9] }, type := 4, pos := "header.go:107", after := #[{ on := 11, ground := Ground.data }, { on := 15, ground := Ground.data }, { on := 15, ground := Ground.chain }, { on := 10, ground := Ground.guard }], guard := some (10, true) }) rfl (fun K hK => ?_) AllReadyIn.nil
       have HC := Lib.hid hK
       clear hK
       go_simp
       (first | refine ⟨trivial, ?_⟩ | refine ⟨fun _ _ => trivial, ?_⟩ | skip)
       refine HC.out _ _ ?_
       clear HC K
       try simp only [Act.put, List.setIfInBounds_toArray, List.set_cons_zero, List.set_cons_succ]
       refine wpAnyIn_take (i := 17) (oi := { dst := some 29, op := Op.unOp UnOp.not 4 (Operand.tmp 28), type := 4, pos := "header.go:107", after := #[{ on := 16, ground := Ground.data }, { on := 10, ground := Ground.guard }], guard := some (10, true) }) (v := undef) rfl rfl (by kernel_rfl) (by kernel_rfl) (by kernel_rfl) (fun _ _ _ h => h) ⟨Or.inr ⟨by rfl, rfl⟩, fun _ => rfl⟩ ?_
       try simp only [Act.put, List.setIfInBounds_toArray, List.set_cons_zero, List.set_cons_succ]
       refine wpAnyIn_take (i := 18) (oi := { dst := some 30, op := Op.pick (Operand.tmp 22) (Operand.tmp 29) (Operand.const (Value.bool false)), type := 4, pos := "header.go:107", after := #[{ on := 10, ground := Ground.data }, { on := 17, ground := Ground.data }], guard := none }) (v := ?_) rfl rfl (by kernel_rfl) (by kernel_rfl) (by kernel_rfl) (fun _ _ _ h => h) ⟨Or.inl ⟨by rfl, ?_⟩, fun _ => rfl⟩ ?_
       rotate_left
       ·(intro w9; go_simp; all_goals with_reducible rfl)
       try simp only [Act.put, List.setIfInBounds_toArray, List.set_cons_zero, List.set_cons_succ]
       refine wpAnyIn_done (by kernel_rfl) ?_ _
       gi_wp2
       go_roundw
       case rel => exact ⟨k + 1, _, rfl, by omega, by go_num, Lib.hid ⟨by rw [HV.out]; exact HJV1.out, HBV1.out⟩⟩
       case measure => simp [intOf] <;> omega
      ·have HC := Lib.hid hK
       clear hK
       go_simp
       refine HC.out _ _ ?_
       clear HC K
       try simp only [Act.put, List.setIfInBounds_toArray, List.set_cons_zero, List.set_cons_succ]
       refine wpAnyIn_ready (rs := [6]) (by kernel_rfl) (by simp) ?_
       refine AllReadyIn.cons (o := { dst := some 18, op := Op.call { callee := Callee.value (Operand.func 196), args := #[Operand.tmp 17], argTypes := #[9] }, type := 9, pos := "header.go:107", after := #[{ on := 5, ground := Ground.data }, { on := 3, ground := Ground.chain }, { on := 3, ground := Ground.guard }], guard := some (3, true) }) rfl (fun K hK => ?_) AllReadyIn.nil
       have HC := Lib.hid hK
       clear hK
       go_simp
       (first | refine ⟨trivial, ?_⟩ | skip)
       refine (callsIn_wide.2 (HSM.out _)).mono ?_
       rintro e V1 ⟨rfl, hb⟩
       have HXV1 := Lib.hid ((hb.block wr.heap.size (heap_lt HXV0.out)).trans HXV0.out)
       have HBV1 := Lib.hid (HBV0.out.trans (hb.mono (Nat.le_trans hn0 HBV0.out.size)))
       have HJV1 := Lib.hid (HJ.out _ _ _ HJV0.out hb)
       clear hb
       have pV10 := cells_at HXV1.out 0 (u := .string (ba f1)) rfl
       have pV11 := cells_at HXV1.out 1 (u := .string (ba f2)) rfl
       have pV13 := cells_at HXV1.out 3 (u := .bool false) rfl
       have pV1k := HK.out _ HBV1.out
       refine HC.out _ _ ?_
       clear HC K
       try simp only [Act.put, List.setIfInBounds_toArray, List.set_cons_zero, List.set_cons_succ]
       refine wpAnyIn_take (i := 8) (oi := { dst := some 20, op := Op.binOp BinOp.eql 9 (Operand.tmp 18) (Operand.tmp 19) 9, type := 4, pos := "header.go:107", after := #[{ on := 6, ground := Ground.data }, { on := 7, ground := Ground.data }, { on := 3, ground := Ground.guard }], guard := some (3, true) }) (v := ?_) rfl rfl (by kernel_rfl) (by kernel_rfl) (by kernel_rfl) (fun _ _ _ h => h) ⟨Or.inl ⟨by rfl, ?_⟩, fun _ => rfl⟩ ?_
       rotate_left
       ·(intro w9; go_simp; all_goals with_reducible rfl)
       try simp only [Act.put, List.setIfInBounds_toArray, List.set_cons_zero, List.set_cons_succ]
       refine wpAnyIn_take (i := 9) (oi := { dst := some 21, op := Op.pick (Operand.tmp 15) (Operand.tmp 20) (Operand.const (Value.bool false)), type := 4, pos := "header.go:107", after := #[{ on := 3, ground := Ground.data }, { on := 8, ground := Ground.data }], guard := none }) (v := ?_) rfl rfl (by kernel_rfl) (by kernel_rfl) (by kernel_rfl) (fun _ _ _ h => h) ⟨Or.inl ⟨by rfl, ?_⟩, fun _ => rfl⟩ ?_
       rotate_left
       ·(intro w9; go_simp; all_goals with_reducible rfl)
       try simp only [Act.put, List.setIfInBounds_toArray, List.set_cons_zero, List.set_cons_succ]
       refine wpAnyIn_take (i := 10) (oi := { dst := some 22, op := Op.move (Operand.tmp 21), type := 4, pos := "header.go:107", after := #[{ on := 9, ground := Ground.data }, { on := 6, ground := Ground.chain }], guard := none }) (v := ?_) rfl rfl (by kernel_rfl) (by kernel_rfl) (by kernel_rfl) (fun _ _ _ h => h) ⟨Or.inl ⟨by rfl, ?_⟩, fun _ => rfl⟩ ?_
       rotate_left
       ·(intro w9; go_simp; all_goals with_reducible rfl)
       try simp only [Act.put, List.setIfInBounds_toArray, List.set_cons_zero, List.set_cons_succ]
       refine wpAnyIn_take (i := 11) (oi := { dst := some 23, op := Op.move (Operand.tmp 0), type := 28, pos := "header.go:107", after := #[{ on := 10, ground := Ground.guard }], guard := some (10, true) }) (v := undef) rfl rfl (by kernel_rfl) (by kernel_rfl) (by kernel_rfl) (fun _ _ _ h => h) ⟨Or.inr ⟨by rfl, rfl⟩, fun _ => rfl⟩ ?_
       try simp only [Act.put, List.setIfInBounds_toArray, List.set_cons_zero, List.set_cons_succ]
       refine wpAnyIn_take (i := 12) (oi := { dst := some 24, op := Op.fieldAddr 162 (Operand.tmp 5) 1, type := 0, pos := "header.go:107", after := #[{ on := 10, ground := Ground.guard }], guard := some (10, true) }) (v := undef) rfl rfl (by kernel_rfl) (by kernel_rfl) (by kernel_rfl) (fun _ _ _ h => h) ⟨Or.inr ⟨by rfl, rfl⟩, fun _ => rfl⟩ ?_
       try simp only [Act.put, List.setIfInBounds_toArray, List.set_cons_zero, List.set_cons_succ]
       refine wpAnyIn_take (i := 13) (oi := { dst := some 25, op := Op.load 9 (Operand.tmp 24), type := 9, pos := "header.go:107", after := #[{ on := 12, ground := Ground.data }, { on := 10, ground := Ground.guard }], guard := some (10, true) }) (v := undef) rfl rfl (by kernel_rfl) (by kernel_rfl) (by kernel_rfl) (fun _ _ _ h => h) ⟨Or.inr ⟨by rfl, rfl⟩, fun _ => rfl⟩ ?_
       try simp only [Act.put, List.setIfInBounds_toArray, List.set_cons_zero, List.set_cons_succ]
       refine wpAnyIn_ready (rs := [14]) (by kernel_rfl) (by simp) ?_
       refine AllReadyIn.cons (o := { dst := some 26, op := Op.call { callee := Callee.value (Operand.func 198), args := #[Operand.tmp 25], argTypes := #[9] }, type := 9, pos := "header.go:107", after := #[{ on := 13, ground := Ground.data }, { on := 10, ground := Ground.chain }, { on := 10, ground := Ground.guard }], guard := some (10, true) }) rfl (fun K hK => ?_) AllReadyIn.nil
       have HC := Lib.hid hK
       clear hK
       go_simp
       (first | refine ⟨trivial, ?_⟩ | refine ⟨fun _ _ => trivial, ?_⟩ | skip)
       refine HC.out _ _ ?_
       clear HC K
       try simp only [Act.put, List.setIfInBounds_toArray, List.set_cons_zero, List.set_cons_succ]
       refine wpAnyIn_ready (rs := [15]) (by kernel_rfl) (by simp) ?_
       refine AllReadyIn.cons (o := { dst := some 27, op := Op.call { callee := Callee.value (Operand.func 68), args := #[Operand.tmp 26, Operand.const (Value.string { data := #[32, 9] })], argTypes := #[9, 9] }, type := 9, pos := "header.go:107", after := #[{ on := 14, ground := Ground.data }, { on := 14, ground := Ground.chain }, { on := 10, ground := Ground.guard }], guard := some (10, true) }) rfl (fun K hK => ?_) AllReadyIn.nil
       have HC := Lib.hid hK
       clear hK
       go_simp
       (first | refine ⟨trivial, ?_⟩ | refine ⟨fun _ _ => trivial, ?_⟩ | skip)
       refine HC.out _ _ ?_
       clear HC K
       try simp only [Act.put, List.setIfInBounds_toArray, List.set_cons_zero, List.set_cons_succ]
       refine wpAnyIn_ready (rs := [16]) (by kernel_rfl) (by simp) ?_
       refine AllReadyIn.cons (o := { dst := some 28, op := Op.call { callee := Callee.value (Operand.tmp 23), args := #[Operand.tmp 27], argTypes := #[9] }, type := 4, pos := "header.go:107", after := #[{ on := 11, ground := Ground.data }, { on := 15, ground := Ground.data }, { on := 15, ground := Ground.chain }, { on := 10, ground := Ground.guard }], guard := some (10, true) }) rfl (fun K hK => ?_) AllReadyIn.nil
       have HC := Lib.hid hK
       clear hK
       go_simp
       (first | refine ⟨trivial, ?_⟩ | refine ⟨fun _ _ => trivial, ?_⟩ | skip)
       refine HC.out _ _ ?_
       clear HC K
       try simp only [Act.put, List.setIfInBounds_toArray, List.set_cons_zero, List.set_cons_succ]
       refine wpAnyIn_take (i := 17) (oi := { dst := some 29, op := Op.unOp UnOp.not 4 (Operand.tmp 28), type := 4, pos := "header.go:107", after := #[{ on := 16, ground := Ground.data }, { on := 10, ground := Ground.guard }], guard := some (10, true) }) (v := undef) rfl rfl (by kernel_rfl) (by kernel_rfl) (by kernel_rfl) (fun _ _ _ h => h) ⟨Or.inr ⟨by rfl, rfl⟩, fun _ => rfl⟩ ?_
       try simp only [Act.put, List.setIfInBounds_toArray, List.set_cons_zero, List.set_cons_succ]
       refine wpAnyIn_take (i := 18) (oi := { dst := some 30, op := Op.pick (Operand.tmp 22) (Operand.tmp 29) (Operand.const (Value.bool false)), type := 4, pos := "header.go:107", after := #[{ on := 10, ground := Ground.data }, { on := 17, ground := Ground.data }], guard := none }) (v := ?_) rfl rfl (by kernel_rfl) (by kernel_rfl) (by kernel_rfl) (fun _ _ _ h => h) ⟨Or.inl ⟨by rfl, ?_⟩, fun _ => rfl⟩ ?_
       rotate_left
       ·(intro w9; go_simp; all_goals with_reducible rfl)
       try simp only [Act.put, List.setIfInBounds_toArray, List.set_cons_zero, List.set_cons_succ]
       refine wpAnyIn_done (by kernel_rfl) ?_ _
       gi_wp2
       go_roundw
       case rel => exact ⟨k + 1, _, rfl, by omega, by go_num, Lib.hid ⟨by rw [HV.out]; exact HJV1.out, HBV1.out⟩⟩
       case measure => simp [intOf] <;> omega
     ·have HC := Lib.hid hK
      clear hK
      go_simp
      refine HC.out _ _ ?_
      clear HC K
      try simp only [Act.put, List.setIfInBounds_toArray, List.set_cons_zero, List.set_cons_succ]
      refine wpAnyIn_ready (rs := [5]) (by kernel_rfl) (by simp) ?_
      refine AllReadyIn.cons (o := { dst := some 17, op := Op.load 9 (Operand.tmp 16), type := 9, pos := "header.go:107", after := #[{ on := 4, ground := Ground.data }, { on := 3, ground := Ground.guard }], guard := some (3, true) }) rfl (fun K hK => ?_) AllReadyIn.nil
      have HC := Lib.hid hK
      clear hK
      go_simp
      refine HC.out _ _ ?_
      clear HC K
      try simp only [Act.put, List.setIfInBounds_toArray, List.set_cons_zero, List.set_cons_succ]
      refine wpAnyIn_ready (rs := [6]) (by kernel_rfl) (by simp) ?_
      refine AllReadyIn.cons (o := { dst := some 18, op := Op.call { callee := Callee.value (Operand.func 196), args := #[Operand.tmp 17], argTypes := #[9] }, type := 9, pos := "header.go:107", after := #[{ on := 5, ground := Ground.data }, { on := 3, ground := Ground.chain }, { on := 3, ground := Ground.guard }], guard := some (3, true) }) rfl (fun K hK => ?_) AllReadyIn.nil
      have HC := Lib.hid hK
      clear hK
      go_simp
      (first | refine ⟨trivial, ?_⟩ | skip)
      refine (callsIn_wide.2 (HSM.out _)).mono ?_
      rintro e V1 ⟨rfl, hb⟩
      have HXV1 := Lib.hid ((hb.block wr.heap.size (heap_lt HXV0.out)).trans HXV0.out)
      have HBV1 := Lib.hid (HBV0.out.trans (hb.mono (Nat.le_trans hn0 HBV0.out.size)))
      have HJV1 := Lib.hid (HJ.out _ _ _ HJV0.out hb)
      clear hb
      have pV10 := cells_at HXV1.out 0 (u := .string (ba f1)) rfl
      have pV11 := cells_at HXV1.out 1 (u := .string (ba f2)) rfl
      have pV13 := cells_at HXV1.out 3 (u := .bool false) rfl
      have pV1k := HK.out _ HBV1.out
      refine HC.out _ _ ?_
      clear HC K
      try simp only [Act.put, List.setIfInBounds_toArray, List.set_cons_zero, List.set_cons_succ]
      refine wpAnyIn_take (i := 8) (oi := { dst := some 20, op := Op.binOp BinOp.eql 9 (Operand.tmp 18) (Operand.tmp 19) 9, type := 4, pos := "header.go:107", after := #[{ on := 6, ground := Ground.data }, { on := 7, ground := Ground.data }, { on := 3, ground := Ground.guard }], guard := some (3, true) }) (v := ?_) rfl rfl (by kernel_rfl) (by kernel_rfl) (by kernel_rfl) (fun _ _ _ h => h) ⟨Or.inl ⟨by rfl, ?_⟩, fun _ => rfl⟩ ?_
      rotate_left
      ·(intro w9; go_simp; all_goals with_reducible rfl)
      try simp only [Act.put, List.setIfInBounds_toArray, List.set_cons_zero, List.set_cons_succ]
      refine wpAnyIn_take (i := 9) (oi := { dst := some 21, op := Op.pick (Operand.tmp 15) (Operand.tmp 20) (Operand.const (Value.bool false)), type := 4, pos := "header.go:107", after := #[{ on := 3, ground := Ground.data }, { on := 8, ground := Ground.data }], guard := none }) (v := ?_) rfl rfl (by kernel_rfl) (by kernel_rfl) (by kernel_rfl) (fun _ _ _ h => h) ⟨Or.inl ⟨by rfl, ?_⟩, fun _ => rfl⟩ ?_
      rotate_left
      ·(intro w9; go_simp; all_goals with_reducible rfl)
      try simp only [Act.put, List.setIfInBounds_toArray, List.set_cons_zero, List.set_cons_succ]
      refine wpAnyIn_take (i := 10) (oi := { dst := some 22, op := Op.move (Operand.tmp 21), type := 4, pos := "header.go:107", after := #[{ on := 9, ground := Ground.data }, { on := 6, ground := Ground.chain }], guard := none }) (v := ?_) rfl rfl (by kernel_rfl) (by kernel_rfl) (by kernel_rfl) (fun _ _ _ h => h) ⟨Or.inl ⟨by rfl, ?_⟩, fun _ => rfl⟩ ?_
      rotate_left
      ·(intro w9; go_simp; all_goals with_reducible rfl)
      try simp only [Act.put, List.setIfInBounds_toArray, List.set_cons_zero, List.set_cons_succ]
      refine wpAnyIn_take (i := 11) (oi := { dst := some 23, op := Op.move (Operand.tmp 0), type := 28, pos := "header.go:107", after := #[{ on := 10, ground := Ground.guard }], guard := some (10, true) }) (v := undef) rfl rfl (by kernel_rfl) (by kernel_rfl) (by kernel_rfl) (fun _ _ _ h => h) ⟨Or.inr ⟨by rfl, rfl⟩, fun _ => rfl⟩ ?_
      try simp only [Act.put, List.setIfInBounds_toArray, List.set_cons_zero, List.set_cons_succ]
      refine wpAnyIn_take (i := 12) (oi := { dst := some 24, op := Op.fieldAddr 162 (Operand.tmp 5) 1, type := 0, pos := "header.go:107", after := #[{ on := 10, ground := Ground.guard }], guard := some (10, true) }) (v := undef) rfl rfl (by kernel_rfl) (by kernel_rfl) (by kernel_rfl) (fun _ _ _ h => h) ⟨Or.inr ⟨by rfl, rfl⟩, fun _ => rfl⟩ ?_
      try simp only [Act.put, List.setIfInBounds_toArray, List.set_cons_zero, List.set_cons_succ]
      refine wpAnyIn_take (i := 13) (oi := { dst := some 25, op := Op.load 9 (Operand.tmp 24), type := 9, pos := "header.go:107", after := #[{ on := 12, ground := Ground.data }, { on := 10, ground := Ground.guard }], guard := some (10, true) }) (v := undef) rfl rfl (by kernel_rfl) (by kernel_rfl) (by kernel_rfl) (fun _ _ _ h => h) ⟨Or.inr ⟨by rfl, rfl⟩, fun _ => rfl⟩ ?_
      try simp only [Act.put, List.setIfInBounds_toArray, List.set_cons_zero, List.set_cons_succ]
      refine wpAnyIn_ready (rs := [14]) (by kernel_rfl) (by simp) ?_
      refine AllReadyIn.cons (o := { dst := some 26, op := Op.call { callee := Callee.value (Operand.func 198), args := #[Operand.tmp 25], argTypes := #[9] }, type := 9, pos := "header.go:107", after := #[{ on := 13, ground := Ground.data }, { on := 10, ground := Ground.chain }, { on := 10, ground := Ground.guard }], guard := some (10, true) }) rfl (fun K hK => ?_) AllReadyIn.nil
      have HC := Lib.hid hK
      clear hK
      go_simp
      (first | refine ⟨trivial, ?_⟩ | refine ⟨fun _ _ => trivial, ?_⟩ | skip)
      refine HC.out _ _ ?_
      clear HC K
      try simp only [Act.put, List.setIfInBounds_toArray, List.set_cons_zero, List.set_cons_succ]
      refine wpAnyIn_ready (rs := [15]) (by kernel_rfl) (by simp) ?_
      refine AllReadyIn.cons (o := { dst := some 27, op := Op.call { callee := Callee.value (Operand.func 68), args := #[Operand.tmp 26, Operand.const (Value.string { data := #[32, 9] })], argTypes := #[9, 9] }, type := 9, pos := "header.go:107", after := #[{ on := 14, ground := Ground.data }, { on := 14, ground := Ground.chain }, { on := 10, ground := Ground.guard }], guard := some (10, true) }) rfl (fun K hK => ?_) AllReadyIn.nil
      have HC := Lib.hid hK
      clear hK
      go_simp
      (first | refine ⟨trivial, ?_⟩ | refine ⟨fun _ _ => trivial, ?_⟩ | skip)
      refine HC.out _ _ ?_
      clear HC K
      try simp only [Act.put, List.setIfInBounds_toArray, List.set_cons_zero, List.set_cons_succ]
      refine wpAnyIn_ready (rs := [16]) (by kernel_rfl) (by simp) ?_
      refine AllReadyIn.cons (o := { dst := some 28, op := Op.call { callee := Callee.value (Operand.tmp 23), args := #[Operand.tmp 27], argTypes := #[9] }, type := 4, pos := "header.go:107", after := #[{ on := 11, ground := Ground.data }, { on := 15, ground := Ground.data }, { on := 15, ground := Ground.chain }, { on := 10, ground := Ground.guard }], guard := some (10, true) }) rfl (fun K hK => ?_) AllReadyIn.nil
      have HC := Lib.hid hK
      clear hK
      go_simp
      (first | refine ⟨trivial, ?_⟩ | refine ⟨fun _ _ => trivial, ?_⟩ | skip)
      refine HC.out _ _ ?_
      clear HC K
      try simp only [Act.put, List.setIfInBounds_toArray, List.set_cons_zero, List.set_cons_succ]
      refine wpAnyIn_take (i := 17) (oi := { dst := some 29, op := Op.unOp UnOp.not 4 (Operand.tmp 28), type := 4, pos := "header.go:107", after := #[{ on := 16, ground := Ground.data }, { on := 10, ground := Ground.guard }], guard := some (10, true) }) (v := undef) rfl rfl (by kernel_rfl) (by kernel_rfl) (by kernel_rfl) (fun _ _ _ h => h) ⟨Or.inr ⟨by rfl, rfl⟩, fun _ => rfl⟩ ?_
      try simp only [Act.put, List.setIfInBounds_toArray, List.set_cons_zero, List.set_cons_succ]
      refine wpAnyIn_take (i := 18) (oi := { dst := some 30, op := Op.pick (Operand.tmp 22) (Operand.tmp 29) (Operand.const (Value.bool false)), type := 4, pos := "header.go:107", after := #[{ on := 10, ground := Ground.data }, { on := 17, ground := Ground.data }], guard := none }) (v := ?_) rfl rfl (by kernel_rfl) (by kernel_rfl) (by kernel_rfl) (fun _ _ _ h => h) ⟨Or.inl ⟨by rfl, ?_⟩, fun _ => rfl⟩ ?_
      rotate_left
      ·(intro w9; go_simp; all_goals with_reducible rfl)
      try simp only [Act.put, List.setIfInBounds_toArray, List.set_cons_zero, List.set_cons_succ]
      refine wpAnyIn_done (by kernel_rfl) ?_ _
      gi_wp2
      go_roundw
      case rel => exact ⟨k + 1, _, rfl, by omega, by go_num, Lib.hid ⟨by rw [HV.out]; exact HJV1.out, HBV1.out⟩⟩
      case measure => simp [intOf] <;> omega
  ·obtain rfl : k = m := by omega
   gi_wp2
   go_end0
   exact ⟨⟨_, rfl⟩, .inl ⟨_, by rw [List.take_of_length_le (by rw [HN.out]; exact Nat.le_refl _)], HR.out.1⟩⟩
end Go.Proofs.YthidbmeaccpjdaaGreatDoor
end
