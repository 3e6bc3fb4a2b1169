/- Layer 14: bodies: its region that draws its order (printed by gen_reg6. Layer 9, plain: what stands behind the empty line is not read. -/
import Derived.Shelf.Abstract
import Derived.Shelf.RegionOpen
import Derived.OrdersIn
import Derived.Test.YthidbmeaccpjdaaGreatDoorM34
import Derived.Test.YthidbmeaccpjdaaGreatDoorM03
import Derived.Test.YthidbmeaccpjdaaGreatDoorM18
import Derived.Test.YthidbmeaccpjdaaGreatDoorM33
section
namespace Go.Proofs.YthidbmeaccpjdaaGreatDoor
open Go.RowKit
set_option linter.unusedVariables false
open Go.Shelf
attribute [local go_sem] Oper.semAt_some
set_option maxRecDepth 100000 in
set_option maxHeartbeats 4000000 in
theorem region6_any (s b : List UInt8) (i l : Nat) (x : LnX s) (w W : World) (q : Bool × Bool) (hq : bndP ((s.take x.v.2).drop x.v.1) b = q) (hl : s.length ≤ 1000000000) (hb : b.length ≤ 1000000000000000) (c0 : W.cell? ⟨w.heap.size, 0, none⟩ = some (.string (ba s))) (c1 : W.cell? ⟨w.heap.size + 1, 0, none⟩ = some (.string (ba b))) :
  (Code.region 6 #[{ dst := some 20, op := Op.load 9 (Operand.tmp 3), type := 9, pos := "mime.go:48", after := #[], guard := none }, { dst := some 21, op := Op.move (Operand.tmp 9), type := 3, pos := "mime.go:48", after := #[], guard := none }, { dst := some 22, op := Op.move (Operand.tmp 10), type := 3, pos := "mime.go:48", after := #[], guard := none }, { dst := some 23, op := Op.slice 9 (Operand.tmp 20) (some (Operand.tmp 21)) (some (Operand.tmp 22)) none, type := 9, pos := "mime.go:48", after := #[{ on := 0, ground := Ground.data }, { on := 1, ground := Ground.data }, { on := 2, ground := Ground.data }], guard := none }, { dst := some 24, op := Op.load 9 (Operand.tmp 5), type := 9, pos := "mime.go:48", after := #[], guard := none }, { dst := some 25, op := Op.call { callee := Callee.value (Operand.func 146), args := #[Operand.tmp 23, Operand.tmp 24], argTypes := #[9, 9] }, type := 159, pos := "mime.go:48", after := #[{ on := 3, ground := Ground.data }, { on := 4, ground := Ground.data }], guard := none }, { dst := some 19, op := Op.move (Operand.tmp 25), type := 159, pos := "mime.go:48", after := #[{ on := 5, ground := Ground.data }], guard := none }, { dst := some 26, op := Op.extract (Operand.tmp 19) 0, type := 4, pos := "mime.go:48", after := #[{ on := 6, ground := Ground.data }], guard := none }, { dst := some 27, op := Op.extract (Operand.tmp 19) 1, type := 4, pos := "mime.go:48", after := #[{ on := 6, ground := Ground.data }, { on := 9, ground := Ground.gcOnly Departure.lateStores }], guard := none }, { dst := some 11, op := Op.assign (Operand.tmp 26), type := 4, pos := "mime.go:48", after := #[{ on := 7, ground := Ground.data }, { on := 5, ground := Ground.chain }, { on := 0, ground := Ground.phase }, { on := 1, ground := Ground.phase }, { on := 2, ground := Ground.phase }, { on := 3, ground := Ground.phase }, { on := 4, ground := Ground.phase }, { on := 5, ground := Ground.phase }, { on := 6, ground := Ground.phase }, { on := 7, ground := Ground.phase }, { on := 8, ground := Ground.textOnly Departure.lateStores }], guard := none }, { dst := some 12, op := Op.assign (Operand.tmp 27), type := 4, pos := "mime.go:48", after := #[{ on := 8, ground := Ground.data }, { on := 9, ground := Ground.chain }, { on := 0, ground := Ground.phase }, { on := 1, ground := Ground.phase }, { on := 2, ground := Ground.phase }, { on := 3, ground := Ground.phase }, { on := 4, ground := Ground.phase }, { on := 5, ground := Ground.phase }, { on := 6, ground := Ground.phase }, { on := 7, ground := Ground.phase }, { on := 8, ground := Ground.phase }, { on := 9, ground := Ground.phase }], guard := none }] true).wpIn (Fence.wide.inRound l) 7 Tryz.prog (fun e a' W' => e = .normal ∧ a' = { tmps := #[.string (ba s), .int .i64 (i : Int), .string (ba b), .pointer (some ⟨w.heap.size, 0, none⟩), undef, .pointer (some ⟨w.heap.size + 1, 0, none⟩), .pointer (some ⟨w.heap.size + 2, 0, none⟩), .pointer (some ⟨w.heap.size + 3, 0, none⟩), .pointer (some ⟨w.heap.size + 4, 0, none⟩), .int .i64 (x.v.1 : Nat), .int .i64 (x.v.2 : Nat), .bool q.1, .bool q.2, undef, .string (ba s), .int .i64 (i : Int), .func (.func 193) #[] #[.pointer (some ⟨w.heap.size + 6, 0, none⟩), .pointer (some ⟨w.heap.size + 5, 0, none⟩)], .int .i64 (x.v.1 : Nat), .int .i64 (x.v.2 : Nat), .tuple #[.bool q.1, .bool q.2], .string (ba s), .int .i64 (x.v.1 : Nat), .int .i64 (x.v.2 : Nat), .string (ba ((s.take x.v.2).drop x.v.1)), .string (ba b), .tuple #[.bool q.1, .bool q.2], .bool q.1, .bool q.2, undef, undef, undef, undef, undef, undef, undef, undef, undef, undef, undef, undef, undef, undef, undef, undef, undef, undef, undef, undef, undef, undef, undef, undef, undef, undef, undef, undef, undef, undef, undef, undef, undef, undef, undef, undef, undef, undef, undef, undef, undef, undef, undef, undef, undef, undef, undef, undef], defers := [] } ∧ Below W.heap.size W W') { tmps := #[.string (ba s), .int .i64 (i : Int), .string (ba b), .pointer (some ⟨w.heap.size, 0, none⟩), undef, .pointer (some ⟨w.heap.size + 1, 0, none⟩), .pointer (some ⟨w.heap.size + 2, 0, none⟩), .pointer (some ⟨w.heap.size + 3, 0, none⟩), .pointer (some ⟨w.heap.size + 4, 0, none⟩), .int .i64 (x.v.1 : Nat), .int .i64 (x.v.2 : Nat), undef, undef, undef, .string (ba s), .int .i64 (i : Int), .func (.func 193) #[] #[.pointer (some ⟨w.heap.size + 6, 0, none⟩), .pointer (some ⟨w.heap.size + 5, 0, none⟩)], .int .i64 (x.v.1 : Nat), .int .i64 (x.v.2 : Nat), undef, undef, undef, undef, undef, undef, undef, undef, undef, undef, undef, undef, undef, undef, undef, undef, undef, undef, undef, undef, undef, undef, undef, undef, undef, undef, undef, undef, undef, undef, undef, undef, undef, undef, undef, undef, undef, undef, undef, undef, undef, undef, undef, undef, undef, undef, undef, undef, undef, undef, undef, undef, undef, undef, undef, undef, undef], defers := [] } W := by
 have hle := x.le
 have hls := x.ls
 have HB := Lib.hid (fun W => boundary_any ((s.take x.v.2).drop x.v.1) b W (by simp; omega) hb)
 unfold BndPost at HB
 rw [hq] at HB
 have hx : (ba s).extract x.v.1 x.v.2 = ba ((s.take x.v.2).drop x.v.1) := ba_cut _ _ _
 have hz : ((ba s).size : Int) = (s.length : Int) := by rw [ba_size]
 have h1 : ((x.v.1 : Nat) : Int) ≤ ((x.v.2 : Nat) : Int) := by omega
 have h2 : ((x.v.2 : Nat) : Int) ≤ (s.length : Int) := by omega
 have h3 : ¬ ((x.v.2 : Nat) : Int) < ((x.v.1 : Nat) : Int) := by omega
 refine wpIn_region_any (by kernel_rfl) (wpAnyIn_round rfl (by kernel_rfl) _ _ _ _ ?_)
 change wpAnyIn _ _ _ _ _ _ _ _ _ (World.drew _)
 obtain ⟨V, hV⟩ : ∃ V, W.drew = V := ⟨_, rfl⟩
 have HV := Lib.hid (show Below W.heap.size W V by rw [← hV]; exact (Below.refl _ _).drew)
 have d0 : V.cell? ⟨w.heap.size, 0, none⟩ = some (.string (ba s)) := by rw [← hV]; exact c0
 have d1 : V.cell? ⟨w.heap.size + 1, 0, none⟩ = some (.string (ba b)) := by rw [← hV]; exact c1
 rw [hV]
 clear hV c0 c1 hq
 refine wpAnyIn_take (i := 1) (oi := { dst := some 21, op := Op.move (Operand.tmp 9), type := 3, pos := "mime.go:48", after := #[], guard := none }) (v := ?_) rfl rfl (by kernel_rfl) (by kernel_rfl) (by kernel_rfl) (fun _ _ _ h => nomatch h.1) ⟨Or.inl ⟨by rfl, ?_⟩, fun _ => rfl⟩ ?_
 rotate_left
 ·(intro w9; go_simp; all_goals with_reducible rfl)
 try simp only [Act.put, List.setIfInBounds_toArray, List.set_cons_zero, List.set_cons_succ]
 refine wpAnyIn_take (i := 2) (oi := { dst := some 22, op := Op.move (Operand.tmp 10), type := 3, pos := "mime.go:48", after := #[], guard := none }) (v := ?_) rfl rfl (by kernel_rfl) (by kernel_rfl) (by kernel_rfl) (fun _ _ _ h => nomatch h.1) ⟨Or.inl ⟨by rfl, ?_⟩, fun _ => rfl⟩ ?_
 rotate_left
 ·(intro w9; go_simp; all_goals with_reducible rfl)
 try simp only [Act.put, List.setIfInBounds_toArray, List.set_cons_zero, List.set_cons_succ]
 refine wpAnyIn_ready (rs := [0, 4]) (by kernel_rfl) (by simp) ?_
 refine AllReadyIn.cons (o := { dst := some 20, op := Op.load 9 (Operand.tmp 3), type := 9, pos := "mime.go:48", after := #[], guard := none }) rfl (fun K hK => ?_) (AllReadyIn.cons (o := { dst := some 24, op := Op.load 9 (Operand.tmp 5), type := 9, pos := "mime.go:48", after := #[], guard := none }) rfl (fun K hK => ?_) AllReadyIn.nil)
 ·have HC := Lib.hid hK
  clear hK
  go_simp
  refine HC.out _ _ ?_
  clear HC K
  try simp only [Act.put, List.setIfInBounds_toArray, List.set_cons_zero, List.set_cons_succ]
  refine wpAnyIn_take (i := 3) (oi := { dst := some 23, op := Op.slice 9 (Operand.tmp 20) (some (Operand.tmp 21)) (some (Operand.tmp 22)) none, type := 9, pos := "mime.go:48", after := #[{ on := 0, ground := Ground.data }, { on := 1, ground := Ground.data }, { on := 2, ground := Ground.data }], guard := none }) (v := ?_) rfl rfl (by kernel_rfl) (by kernel_rfl) (by kernel_rfl) (fun _ _ _ h => nomatch h.1) ⟨Or.inl ⟨by rfl, ?_⟩, fun _ => rfl⟩ ?_
  rotate_left
  ·(intro w9; go_simp; all_goals with_reducible rfl)
  try simp only [Act.put, List.setIfInBounds_toArray, List.set_cons_zero, List.set_cons_succ]
  refine wpAnyIn_ready (rs := [4]) (by kernel_rfl) (by simp) ?_
  refine AllReadyIn.cons (o := { dst := some 24, op := Op.load 9 (Operand.tmp 5), type := 9, pos := "mime.go:48", after := #[], guard := none }) rfl (fun K hK => ?_) AllReadyIn.nil
  have HC := Lib.hid hK
  clear hK
  go_simp
  refine HC.out _ _ ?_
  clear HC K
  try simp only [Act.put, List.setIfInBounds_toArray, List.set_cons_zero, List.set_cons_succ]
  refine wpAnyIn_ready (rs := [5]) (by kernel_rfl) (by simp) ?_
  refine AllReadyIn.cons (o := { dst := some 25, op := Op.call { callee := Callee.value (Operand.func 146), args := #[Operand.tmp 23, Operand.tmp 24], argTypes := #[9, 9] }, type := 159, pos := "mime.go:48", after := #[{ on := 3, ground := Ground.data }, { on := 4, ground := Ground.data }], guard := none }) rfl (fun K hK => ?_) AllReadyIn.nil
  have HC := Lib.hid hK
  clear hK
  go_simp
  (first | refine ⟨trivial, ?_⟩ | refine ⟨fun _ _ => trivial, ?_⟩ | skip)
  refine (callsIn_wide.2 (HB.out V)).mono ?_
  rintro e V1 ⟨rfl, hb⟩
  refine HC.out _ _ ?_
  clear HC K
  try simp only [Act.put, List.setIfInBounds_toArray, List.set_cons_zero, List.set_cons_succ]
  refine wpAnyIn_take (i := 6) (oi := { dst := some 19, op := Op.move (Operand.tmp 25), type := 159, pos := "mime.go:48", after := #[{ on := 5, ground := Ground.data }], guard := none }) (v := ?_) rfl rfl (by kernel_rfl) (by kernel_rfl) (by kernel_rfl) (fun _ _ _ h => nomatch h.1) ⟨Or.inl ⟨by rfl, ?_⟩, fun _ => rfl⟩ ?_
  rotate_left
  ·(intro w9; go_simp; all_goals with_reducible rfl)
  try simp only [Act.put, List.setIfInBounds_toArray, List.set_cons_zero, List.set_cons_succ]
  refine wpAnyIn_take (i := 7) (oi := { dst := some 26, op := Op.extract (Operand.tmp 19) 0, type := 4, pos := "mime.go:48", after := #[{ on := 6, ground := Ground.data }], guard := none }) (v := ?_) rfl rfl (by kernel_rfl) (by kernel_rfl) (by kernel_rfl) (fun _ _ _ h => nomatch h.1) ⟨Or.inl ⟨by rfl, ?_⟩, fun _ => rfl⟩ ?_
  rotate_left
  ·(intro w9; go_simp; all_goals with_reducible rfl)
  try simp only [Act.put, List.setIfInBounds_toArray, List.set_cons_zero, List.set_cons_succ]
  refine wpAnyIn_take (i := 8) (oi := { dst := some 27, op := Op.extract (Operand.tmp 19) 1, type := 4, pos := "mime.go:48", after := #[{ on := 6, ground := Ground.data }, { on := 9, ground := Ground.gcOnly Departure.lateStores }], guard := none }) (v := ?_) rfl rfl (by kernel_rfl) (by kernel_rfl) (by kernel_rfl) (fun _ _ _ h => nomatch h.1) ⟨Or.inl ⟨by rfl, ?_⟩, fun _ => rfl⟩ ?_
  rotate_left
  ·(intro w9; go_simp; all_goals with_reducible rfl)
  try simp only [Act.put, List.setIfInBounds_toArray, List.set_cons_zero, List.set_cons_succ]
  refine wpAnyIn_take (i := 9) (oi := { dst := some 11, op := Op.assign (Operand.tmp 26), type := 4, pos := "mime.go:48", after := #[{ on := 7, ground := Ground.data }, { on := 5, ground := Ground.chain }, { on := 0, ground := Ground.phase }, { on := 1, ground := Ground.phase }, { on := 2, ground := Ground.phase }, { on := 3, ground := Ground.phase }, { on := 4, ground := Ground.phase }, { on := 5, ground := Ground.phase }, { on := 6, ground := Ground.phase }, { on := 7, ground := Ground.phase }, { on := 8, ground := Ground.textOnly Departure.lateStores }], guard := none }) (v := ?_) rfl rfl (by kernel_rfl) (by kernel_rfl) (by kernel_rfl) (fun _ _ _ h => nomatch h.1) ⟨Or.inl ⟨by rfl, ?_⟩, fun _ => rfl⟩ ?_
  rotate_left
  ·(intro w9; go_simp; all_goals with_reducible rfl)
  try simp only [Act.put, List.setIfInBounds_toArray, List.set_cons_zero, List.set_cons_succ]
  refine wpAnyIn_take (i := 10) (oi := { dst := some 12, op := Op.assign (Operand.tmp 27), type := 4, pos := "mime.go:48", after := #[{ on := 8, ground := Ground.data }, { on := 9, ground := Ground.chain }, { on := 0, ground := Ground.phase }, { on := 1, ground := Ground.phase }, { on := 2, ground := Ground.phase }, { on := 3, ground := Ground.phase }, { on := 4, ground := Ground.phase }, { on := 5, ground := Ground.phase }, { on := 6, ground := Ground.phase }, { on := 7, ground := Ground.phase }, { on := 8, ground := Ground.phase }, { on := 9, ground := Ground.phase }], guard := none }) (v := ?_) rfl rfl (by kernel_rfl) (by kernel_rfl) (by kernel_rfl) (fun _ _ _ h => nomatch h.1) ⟨Or.inl ⟨by rfl, ?_⟩, fun _ => rfl⟩ ?_
  rotate_left
  ·(intro w9; go_simp; all_goals with_reducible rfl)
  try simp only [Act.put, List.setIfInBounds_toArray, List.set_cons_zero, List.set_cons_succ]
  refine wpAnyIn_done (by kernel_rfl) ?_ _
  exact ⟨rfl, rfl, HV.out.trans (hb.mono HV.out.size)⟩
 ·have HC := Lib.hid hK
  clear hK
  go_simp
  refine HC.out _ _ ?_
  clear HC K
  try simp only [Act.put, List.setIfInBounds_toArray, List.set_cons_zero, List.set_cons_succ]
  refine wpAnyIn_ready (rs := [0]) (by kernel_rfl) (by simp) ?_
  refine AllReadyIn.cons (o := { dst := some 20, op := Op.load 9 (Operand.tmp 3), type := 9, pos := "mime.go:48", after := #[], guard := none }) rfl (fun K hK => ?_) AllReadyIn.nil
  have HC := Lib.hid hK
  clear hK
  go_simp
  refine HC.out _ _ ?_
  clear HC K
  try simp only [Act.put, List.setIfInBounds_toArray, List.set_cons_zero, List.set_cons_succ]
  refine wpAnyIn_take (i := 3) (oi := { dst := some 23, op := Op.slice 9 (Operand.tmp 20) (some (Operand.tmp 21)) (some (Operand.tmp 22)) none, type := 9, pos := "mime.go:48", after := #[{ on := 0, ground := Ground.data }, { on := 1, ground := Ground.data }, { on := 2, ground := Ground.data }], guard := none }) (v := ?_) rfl rfl (by kernel_rfl) (by kernel_rfl) (by kernel_rfl) (fun _ _ _ h => nomatch h.1) ⟨Or.inl ⟨by rfl, ?_⟩, fun _ => rfl⟩ ?_
  rotate_left
  ·(intro w9; go_simp; all_goals with_reducible rfl)
  try simp only [Act.put, List.setIfInBounds_toArray, List.set_cons_zero, List.set_cons_succ]
  refine wpAnyIn_ready (rs := [5]) (by kernel_rfl) (by simp) ?_
  refine AllReadyIn.cons (o := { dst := some 25, op := Op.call { callee := Callee.value (Operand.func 146), args := #[Operand.tmp 23, Operand.tmp 24], argTypes := #[9, 9] }, type := 159, pos := "mime.go:48", after := #[{ on := 3, ground := Ground.data }, { on := 4, ground := Ground.data }], guard := none }) rfl (fun K hK => ?_) AllReadyIn.nil
  have HC := Lib.hid hK
  clear hK
  go_simp
  (first | refine ⟨trivial, ?_⟩ | refine ⟨fun _ _ => trivial, ?_⟩ | skip)
  refine (callsIn_wide.2 (HB.out V)).mono ?_
  rintro e V1 ⟨rfl, hb⟩
  refine HC.out _ _ ?_
  clear HC K
  try simp only [Act.put, List.setIfInBounds_toArray, List.set_cons_zero, List.set_cons_succ]
  refine wpAnyIn_take (i := 6) (oi := { dst := some 19, op := Op.move (Operand.tmp 25), type := 159, pos := "mime.go:48", after := #[{ on := 5, ground := Ground.data }], guard := none }) (v := ?_) rfl rfl (by kernel_rfl) (by kernel_rfl) (by kernel_rfl) (fun _ _ _ h => nomatch h.1) ⟨Or.inl ⟨by rfl, ?_⟩, fun _ => rfl⟩ ?_
  rotate_left
  ·(intro w9; go_simp; all_goals with_reducible rfl)
  try simp only [Act.put, List.setIfInBounds_toArray, List.set_cons_zero, List.set_cons_succ]
  refine wpAnyIn_take (i := 7) (oi := { dst := some 26, op := Op.extract (Operand.tmp 19) 0, type := 4, pos := "mime.go:48", after := #[{ on := 6, ground := Ground.data }], guard := none }) (v := ?_) rfl rfl (by kernel_rfl) (by kernel_rfl) (by kernel_rfl) (fun _ _ _ h => nomatch h.1) ⟨Or.inl ⟨by rfl, ?_⟩, fun _ => rfl⟩ ?_
  rotate_left
  ·(intro w9; go_simp; all_goals with_reducible rfl)
  try simp only [Act.put, List.setIfInBounds_toArray, List.set_cons_zero, List.set_cons_succ]
  refine wpAnyIn_take (i := 8) (oi := { dst := some 27, op := Op.extract (Operand.tmp 19) 1, type := 4, pos := "mime.go:48", after := #[{ on := 6, ground := Ground.data }, { on := 9, ground := Ground.gcOnly Departure.lateStores }], guard := none }) (v := ?_) rfl rfl (by kernel_rfl) (by kernel_rfl) (by kernel_rfl) (fun _ _ _ h => nomatch h.1) ⟨Or.inl ⟨by rfl, ?_⟩, fun _ => rfl⟩ ?_
  rotate_left
  ·(intro w9; go_simp; all_goals with_reducible rfl)
  try simp only [Act.put, List.setIfInBounds_toArray, List.set_cons_zero, List.set_cons_succ]
  refine wpAnyIn_take (i := 9) (oi := { dst := some 11, op := Op.assign (Operand.tmp 26), type := 4, pos := "mime.go:48", after := #[{ on := 7, ground := Ground.data }, { on := 5, ground := Ground.chain }, { on := 0, ground := Ground.phase }, { on := 1, ground := Ground.phase }, { on := 2, ground := Ground.phase }, { on := 3, ground := Ground.phase }, { on := 4, ground := Ground.phase }, { on := 5, ground := Ground.phase }, { on := 6, ground := Ground.phase }, { on := 7, ground := Ground.phase }, { on := 8, ground := Ground.textOnly Departure.lateStores }], guard := none }) (v := ?_) rfl rfl (by kernel_rfl) (by kernel_rfl) (by kernel_rfl) (fun _ _ _ h => nomatch h.1) ⟨Or.inl ⟨by rfl, ?_⟩, fun _ => rfl⟩ ?_
  rotate_left
  ·(intro w9; go_simp; all_goals with_reducible rfl)
  try simp only [Act.put, List.setIfInBounds_toArray, List.set_cons_zero, List.set_cons_succ]
  refine wpAnyIn_take (i := 10) (oi := { dst := some 12, op := Op.assign (Operand.tmp 27), type := 4, pos := "mime.go:48", after := #[{ on := 8, ground := Ground.data }, { on := 9, ground := Ground.chain }, { on := 0, ground := Ground.phase }, { on := 1, ground := Ground.phase }, { on := 2, ground := Ground.phase }, { on := 3, ground := Ground.phase }, { on := 4, ground := Ground.phase }, { on := 5, ground := Ground.phase }, { on := 6, ground := Ground.phase }, { on := 7, ground := Ground.phase }, { on := 8, ground := Ground.phase }, { on := 9, ground := Ground.phase }], guard := none }) (v := ?_) rfl rfl (by kernel_rfl) (by kernel_rfl) (by kernel_rfl) (fun _ _ _ h => nomatch h.1) ⟨Or.inl ⟨by rfl, ?_⟩, fun _ => rfl⟩ ?_
  rotate_left
  ·(intro w9; go_simp; all_goals with_reducible rfl)
  try simp only [Act.put, List.setIfInBounds_toArray, List.set_cons_zero, List.set_cons_succ]
  refine wpAnyIn_done (by kernel_rfl) ?_ _
  exact ⟨rfl, rfl, HV.out.trans (hb.mono HV.out.size)⟩
end Go.Proofs.YthidbmeaccpjdaaGreatDoor
end
namespace Go.Proofs.YthidbmeaccpjdaaGreatDoor
open Go.RowKit
set_option linter.unusedVariables false
set_option maxHeartbeats 4000000
theorem cutP_more (x : UInt8) : ∀ {l a b : List UInt8} (Y : List UInt8), cutP x l = some (a, b) → cutP x (l ++ Y) = some (a, b ++ Y)
 | [], a, b, Y, h => by cases h
 | c :: r, a, b, Y, h => by
  rw [List.cons_append]
  unfold cutP at h ⊢
  by_cases hc : c = x
  ·rw [if_pos hc] at h ⊢
   injection h with h
   injection h with h1 h2
   rw [← h1, ← h2]
  ·rw [if_neg hc] at h ⊢
   cases hr : cutP x r with
   | none => rw [hr] at h; cases h
   | some q =>
    obtain ⟨a', b'⟩ := q
    rw [hr] at h
    rw [cutP_more x Y hr]
    injection h with h
    injection h with h1 h2
    rw [← h2, ← h1]
    rfl
theorem endP_pre {l : List UInt8} (Y : List UInt8) (h : (10 : UInt8) ∈ l) : endP (l ++ Y) = endP l := by
 unfold endP
 cases hc : cutP 10 l with
 | none => exact absurd h (cutP_none.1 hc)
 | some q =>
  obtain ⟨a, b⟩ := q
  rw [cutP_more 10 Y hc]
theorem endP_rest {l : List UInt8} (h : l.drop (endP l) ≠ []) : (10 : UInt8) ∈ l := by
 by_cases h1 : (10 : UInt8) ∈ l
 ·exact h1
 ·have h2 : cutP 10 l = none := cutP_none.2 h1
  refine absurd ?_ h
  unfold endP
  rw [h2]
  exact List.drop_length
theorem take_pre {l : List UInt8} (Y : List UInt8) {n : Nat} (h : n ≤ l.length) : (l ++ Y).take n = l.take n := by rw [List.take_append_of_le_length h]
theorem drop_pre {l : List UInt8} (Y : List UInt8) {n : Nat} (h : n ≤ l.length) : (l ++ Y).drop n = l.drop n ++ Y := by rw [List.drop_append_of_le_length h]
theorem goes_pre {l : List UInt8} (Y : List UInt8) (h : l ≠ []) : goesP (l ++ Y) = goesP l := by
 cases l with
 | nil => exact absurd rfl h
 | cons c r => rfl
theorem more_pre : ∀ (n : Nat) (l Y : List UInt8), l.length ≤ n → l.drop (moreL l) ≠ [] → moreL (l ++ Y) = moreL l
 | 0, l, Y, hn, h => by
  have : l = [] := List.eq_nil_of_length_eq_zero (by omega)
  subst this
  simp at h
 | n + 1, l, Y, hn, h => by
  have hl : l ≠ [] := by
   rintro rfl
   simp at h
  cases hg : goesP l with
  | false => rw [moreL_no hg, moreL_no (by rw [goes_pre Y hl, hg])]
  | true =>
   rw [moreL_yes hg] at h ⊢
   rw [← List.drop_drop] at h
   have h1 : l.drop (endP l) ≠ [] := by
    intro e
    rw [e] at h
    simp at h
   have h2 := endP_rest h1
   have h3 := endP_pos hl
   rw [moreL_yes (by rw [goes_pre Y hl, hg]), endP_pre Y h2, drop_pre Y (endP_le l), more_pre n _ Y (by rw [List.length_drop]; omega) h]
def shutF : Nat → List UInt8 → Bool
 | 0, _ => false
 | f + 1, l => if l = [] then false else if nudeP (l.take (endP l)) = [] then l.contains 10
  else shutF f (l.drop (endP l + moreL (l.drop (endP l))))
theorem shutF_ne : ∀ {f : Nat} {l : List UInt8}, shutF f l = true → l ≠ []
 | 0, _, h => by cases h
 | f + 1, l, h => by
  rintro rfl
  unfold shutF at h
  rw [if_pos rfl] at h
  cases h
theorem head_pre : ∀ (f : Nat) (l Y : List UInt8), shutF f l = true → headP (l ++ Y) = headP l ∧ (headP l).2 ≤ l.length
 | 0, _, _, h => by cases h
 | f + 1, l, Y, h => by
  have hl := shutF_ne h
  have hl2 : l ++ Y ≠ [] := by
   cases l with
   | nil => exact absurd rfl hl
   | cons c r => simp
  unfold shutF at h
  rw [if_neg hl] at h
  have hle := endP_le l
  by_cases hn : nudeP (l.take (endP l)) = []
  ·rw [if_pos hn] at h
   have hm : (10 : UInt8) ∈ l := by simpa using h
   have e := endP_pre Y hm
   rw [headP_end hl2 (by rw [e, take_pre Y hle]; exact hn), headP_end hl hn, e]
   exact ⟨rfl, hle⟩
  ·rw [if_neg hn] at h
   have hr := shutF_ne h
   rw [← List.drop_drop] at hr
   have h1 : l.drop (endP l) ≠ [] := by
    intro e
    rw [e] at hr
    simp at hr
   have hm := endP_rest h1
   have e := endP_pre Y hm
   have e2 : moreL ((l ++ Y).drop (endP (l ++ Y))) = moreL (l.drop (endP l)) := by
    rw [e, drop_pre Y hle, more_pre _ _ Y (Nat.le_refl _) hr]
   obtain ⟨m, hmm⟩ : ∃ m, endP l + moreL (l.drop (endP l)) = m := ⟨_, rfl⟩
   have hml : m ≤ l.length := by
    have := moreL_le (l.drop (endP l))
    rw [List.length_drop] at this
    omega
   rw [hmm] at h
   obtain ⟨i1, i2⟩ := head_pre f (l.drop m) Y h
   rw [headP_go hl2 (by rw [e, take_pre Y hle]; exact hn) (m := m) (by rw [e2, e]; exact hmm), headP_go hl hn hmm, take_pre Y hml, drop_pre Y hml, i1]
   rw [List.length_drop] at i2
   exact ⟨rfl, by show m + _ ≤ _; omega⟩
end Go.Proofs.YthidbmeaccpjdaaGreatDoor
