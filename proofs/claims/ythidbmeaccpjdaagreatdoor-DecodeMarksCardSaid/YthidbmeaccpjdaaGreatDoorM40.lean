/- Layer 14: inner: its contract (printed by gen_inner. Layer 9: the contracts of named and Get. -/
import Derived.RangeFuncFrom
import Derived.Test.YthidbmeaccpjdaaGreatDoorM39
import Derived.Test.YthidbmeaccpjdaaGreatDoorM08
import Derived.Test.YthidbmeaccpjdaaGreatDoorM29
import Derived.Test.YthidbmeaccpjdaaGreatDoorM37
namespace Go.Proofs.YthidbmeaccpjdaaGreatDoor
open Go.RowKit
set_option linter.unusedVariables false
set_option maxHeartbeats 4000000
structure PrtFit (s : List UInt8) (p : Prt) (b t : Nat) : Prop where
 hb : p.body = (b : Int)
 ht : p.stop = (t : Int)
 le : b ≤ t
 ls : t ≤ s.length
 np : p.typ.params.length ≤ 1000000000
 lp : ∀ q ∈ p.typ.params, q.1.length ≤ 1000000000
 lv : ∀ q ∈ p.typ.params, q.2.length ≤ 2570000000
def InPost (w : World) (ts : List (Nat × Nat)) (e : Ending) (w' : World) : Prop := ∃ A n c, e = .returned (.slice A n c) ∧ Prs w' w'.heap.size A n (ts.map pairI) ∧ Below w.heap.size w w' ∧ ∀ ad, A = some ad → w.heap.size ≤ ad.block
theorem in_nil {w w' : World} {ts : List (Nat × Nat)} (h : ts = []) (hb : Below w.heap.size w w') : InPost w ts (.returned (.slice none 0 0)) w' := by
 subst h
 exact ⟨none, 0, 0, rfl, Prs.nil_, hb, fun ad e => by cases e⟩
theorem in_own {w w2 w' : World} {ts us : List (Nat × Nat)} {v : Value} (h : ts = us) (ho : OwnPrs w' w2.heap.size v (us.map pairI)) (hb : Below w.heap.size w w') (hz : w.heap.size ≤ w2.heap.size) : InPost w ts (.returned v) w' := by
 subst h
 obtain ⟨A, c, rfl, _, _, h4⟩ := ho.reads
 refine ⟨A, _, c, rfl, h4, hb, fun ad e => ?_⟩
 subst e
 rcases ho.row.2 with ⟨e, _⟩ | ⟨g, cap, cur, e, hg, _⟩
 ·cases e
 ·injection e with e
  injection e with e
  subst e
  exact Nat.le_trans hz hg
theorem in_one {w w' : World} {ts : List (Nat × Nat)} {b t : Nat} (h : ts = [(b, t)]) (hb : Below w.heap.size w w') (h1 : b ≤ 1000000000) (h2 : t ≤ 1000000000) {g : Nat} (hg : w'.heap.size = g) : InPost w ts (.returned (.slice (some ⟨g, 0, none⟩) 1 1)) (w'.alloc (.cells #[.int .i64 (b : Int), .int .i64 (t : Int)] 53)) := by
 subst h
 subst hg
 refine ⟨_, 1, 1, rfl, ⟨rfl, fun k hk => ?_⟩, hb.alloc hb.size _, fun ad e => by cases e; exact hb.size⟩
 obtain rfl : k = 0 := by simpa using hk
 have h0 := (MapKept.heap_alloc w' (.cells #[.int .i64 (b : Int), .int .i64 (t : Int)] 53)).1
 have e0 : (Addr.add ⟨w'.heap.size, 0, none⟩ (0 * 2)) = ⟨w'.heap.size, 0, none⟩ := by unfold Addr.add; simp
 refine ⟨_, rfl, ?_, ?_, ?_, ?_⟩
 ·rw [e0]; simp
 ·rw [e0]; exact cells_at h0 0 rfl
 ·rw [e0]; exact cells_at h0 1 rfl
 ·exact ⟨⟨by show (-9223372036854775808 : Int) ≤ ((b : Nat) : Int); omega, by show ((b : Nat) : Int) ≤ 9223372036854775807; omega⟩, ⟨by show (-9223372036854775808 : Int) ≤ ((t : Nat) : Int); omega, by show ((t : Nat) : Int) ≤ 9223372036854775807; omega⟩⟩
theorem paramT_len {ps : List (List UInt8 × List UInt8)} {n : List UInt8} (h : ∀ q ∈ ps, q.2.length ≤ 2570000000) : ((paramT ps n).getD []).length ≤ 2570000000 := by
 unfold paramT
 cases hf : ps.find? fun p => decide (smallP p.1 = smallP n) with
 | none => exact Nat.zero_le _
 | some q => exact h q (List.mem_of_find?_eq_some hf)
theorem contains_nl (l : List UInt8) (w : World) : Calls Tryz.prog 72 #[.string (ba l), .string ⟨#[10]⟩] w fun e w' => e = .returned (.bool (decide ((10 : UInt8) ∈ l))) ∧ w' = w := by
 refine (Tryz.strings_Contains_one (ba l) 10 w).mono ?_
 rintro e w' ⟨rfl, rfl⟩
 refine ⟨?_, rfl⟩
 have e : decide (0 ≤ Lib.indexByte (ba l).data.toList 10) = decide ((10 : UInt8) ∈ l) := by
  rw [ba_list, indexV]
  cases hc : cutP 10 l with
  | none => rw [decide_eq_false (cutP_none.1 hc)]; rfl
  | some q =>
   have hm : (10 : UInt8) ∈ l := by rw [(cutP_some (a := q.1) (b := q.2) hc).1]; simp
   rw [decide_eq_true hm]
   show decide ((0 : Int) ≤ ((q.1.length : Nat) : Int)) = true
   exact decide_eq_true (by omega)
 rw [e]
set_option maxRecDepth 100000 in
theorem inner_any (s : List UInt8) (p : Prt) (b t : Nat) (A : Option Addr) (n c : Nat) (w : World) (hl : s.length ≤ 1000000000) (hF : PrtFit s p b t) (hP : Pars w w.heap.size A n p.typ.params) :
  Calls Tryz.prog 34 #[.string (ba s), prtV p A n c] w (InPost w (innerP s p)) := by
 obtain ⟨up, d, st, bd, sp, ⟨K, S, ps⟩, co⟩ := p
 obtain ⟨hb, ht, hle, hls, hnp, hlp, hlv⟩ := hF
 dsimp only at hb ht hnp hlp hlv hP
 subst hb ht
 have HN := Lib.hid (show innerP s ⟨up, d, st, (b : Int), (t : Int), ⟨K, S, ps⟩, co⟩ = if 8 ≤ d then []
  else if K = wMulti then
   (if (paramT ps wBound).getD [] ≠ [] ∧ (10 : UInt8) ∉ (paramT ps wBound).getD [] then bodiesP (s.take t) b ((paramT ps wBound).getD []) else [])
  else if K = wMessage ∧ S = wRfc ∧ co ≠ wB64 ∧ co ≠ wQp then [(b, t)] else [] from by unfold innerP; simp only [Int.toNat_natCast])
 obtain ⟨R, hR⟩ : ∃ R, innerP s ⟨up, d, st, (b : Int), (t : Int), ⟨K, S, ps⟩, co⟩ = R := ⟨_, rfl⟩
 rw [hR] at HN ⊢
 clear hR
 unfold prtV
 dsimp only
 obtain ⟨O, hO⟩ : ∃ O, Obj.cells #[.int .i64 up, .int .i64 d, .int .i64 st, .int .i64 (b : Int), .int .i64 (t : Int), .string (ba K), .string (ba S), .slice A n c, .string (ba co)] 26 = O := ⟨_, rfl⟩
 have HO := Lib.hid hO
 clear hO
 have HBW := Lib.hid (show Below w.heap.size w (w.alloc O) from (Below.refl _ _).alloc (Nat.le_refl _) _)
 have HPA := Lib.hid (show Calls Tryz.prog 42 #[.slice A n c, .string ⟨#[98, 111, 117, 110, 100, 97, 114, 121]⟩] (w.alloc O) (ParPost (w.alloc O) (paramT ps wBound)) from
  param_any ps wBound A n c _ ((hP.below HBW.out).more (by simp)) (by rw [← hP.len]; exact hnp) hlp (by decide))
 have HBL := Lib.hid (show ((paramT ps wBound).getD []).length ≤ 2570000000 from paramT_len hlv)
 rw [← HO.out] at HBW HPA
 clear hP hnp hlp hlv HO O
 have hh : ∀ a b : Nat, (ba s).extract a b = ba ((s.take b).drop a) := fun a b => ba_cut s a b
 have HX := Lib.hid (show (ba s).extract 0 t = ba (s.take t) by rw [ba_cut]; rfl)
 clear hh
 by_cases h8 : 8 ≤ d
 ·have HV := Lib.hid (show R = [] by rw [HN.out, if_pos h8])
  go_enter Tryz.func34, Tryz.ntmps34
  go_wp2
  go_ret
  exact in_nil HV.out HBW.out
 ·rw [if_neg h8] at HN
  by_cases hM : K = wMulti
  ·rw [if_pos hM] at HN
   have gM : ((ba K).toList == [109, 117, 108, 116, 105, 112, 97, 114, 116]) = true := by rw [ba_toList, hM]; rfl
   clear hM
   obtain ⟨oo, hoo⟩ : ∃ o, paramT ps wBound = o := ⟨_, rfl⟩
   unfold ParPost at HPA
   rw [hoo] at HPA HBL HN
   clear hoo
   obtain ⟨bs, hbs⟩ : ∃ b, oo.getD [] = b := ⟨_, rfl⟩
   obtain ⟨ok, hok⟩ : ∃ b, oo.isSome = b := ⟨_, rfl⟩
   simp only [hbs, hok] at HPA HBL HN
   clear hbs hok oo
   have HCN := Lib.hid (fun W => contains_nl bs W)
   by_cases hb0 : bs = []
   ·have HV := Lib.hid (show R = [] by rw [HN.out, if_neg (fun h => h.1 hb0)])
    have gb : ((ba bs).toList != []) = false := by rw [ba_toList, hb0]; rfl
    have gc : (ba bs).toList.isEmpty = true := by rw [ba_toList, hb0]; rfl
    clear hb0
    go_enter Tryz.func34, Tryz.ntmps34
    go_wp2_with fail
    refine HPA.out.mono ?_
    rintro e w2 ⟨rfl, hb2⟩
    have HB2 := Lib.hid (HBW.out.trans (hb2.mono (by simp)))
    clear hb2
    go_wp2
    go_ret
    exact in_nil HV.out HB2.out
   ·have gb : ((ba bs).toList != []) = true := by rw [ba_toList]; simpa using hb0
    have gc : (ba bs).toList.isEmpty = false := by rw [ba_toList]; simpa using hb0
    by_cases h10 : (10 : UInt8) ∈ bs
    ·have HV := Lib.hid (show R = [] by rw [HN.out, if_neg (fun h => h.2 h10)])
     rw [decide_eq_true h10] at HCN
     clear h10 hb0
     go_enter Tryz.func34, Tryz.ntmps34
     go_wp2_with fail
     refine HPA.out.mono ?_
     rintro e w2 ⟨rfl, hb2⟩
     have HB2 := Lib.hid (HBW.out.trans (hb2.mono (by simp)))
     clear hb2
     go_wp2_with fail
     refine (HCN.out _).mono ?_
     rintro e w3 ⟨rfl, rfl⟩
     go_wp2
     go_ret
     exact in_nil HV.out HB2.out
    ·have HV := Lib.hid (show R = bodiesP (s.take t) b bs by rw [HN.out, if_pos ⟨hb0, h10⟩])
     rw [decide_eq_false h10] at HCN
     have HBD := Lib.hid (fun W => bodies_any (s.take t) bs b W (by rw [List.length_take]; omega) (Nat.le_trans HBL.out (by decide)) (by rw [List.length_take]; omega))
     clear h10 hb0
     go_enter Tryz.func34, Tryz.ntmps34
     go_wp2_with fail
     refine HPA.out.mono ?_
     rintro e w2 ⟨rfl, hb2⟩
     have HB2 := Lib.hid (HBW.out.trans (hb2.mono (by simp)))
     have HKE := Lib.hid (show ∀ W, Below w2.heap.size w2 W → W.cell? ⟨w.heap.size, 3, none⟩ = some (.int .i64 (b : Int)) ∧ W.cell? ⟨w.heap.size, 4, none⟩ = some (.int .i64 (t : Int)) from fun W hW => by
      have h0 := (hW.block w.heap.size (by have := hb2.size; simp at this; omega)).trans ((hb2.block w.heap.size (by simp)).trans (MapKept.heap_alloc w _).1)
      exact ⟨cells_at h0 3 rfl, cells_at h0 4 rfl⟩)
     clear hb2
     go_wp2_with fail
     refine (HCN.out _).mono ?_
     rintro e w3 ⟨rfl, rfl⟩
     have hc6 := HKE.out _ (Below.refl _ _)
     obtain ⟨hc63, hc64⟩ := hc6
     have hx := HX.out
     have hz : ((ba s).size : Int) = (s.length : Int) := by rw [ba_size]
     have ht0 : (0 : Int) ≤ ((t : Nat) : Int) := by omega
     have ht1 : ((t : Nat) : Int) ≤ (s.length : Int) := by omega
     have ht2 : ¬ ((t : Nat) : Int) < 0 := by omega
     have ht3 : ¬ (s.length : Int) < ((t : Nat) : Int) := by omega
     go_wp2_with fail
     go_region_held3 (fun w' => w'.cell? ⟨w.heap.size, 3, none⟩ = some (.int .i64 (b : Int)) ∧ w'.cell? ⟨w.heap.size, 4, none⟩ = some (.int .i64 (t : Int)))
      (first
       | exact HKE.out _ ((Below.refl _ _).drew)
       | exact HKE.out _ HV2.out)
      (first | (go_simp; go_at_call 73; refine (HBD.out _).mono ?_; rintro e v1 ⟨v, rfl, ho, hb⟩; (
       have HV1 := Lib.hid (in_own HV.out ho (HB2.out.trans (((Below.refl _ _).drew.trans (hb.mono (Nat.le_refl _))).mono HB2.out.size)) HB2.out.size)
       have HV2 := Lib.hid ((Below.refl _ _).drew.trans (hb.mono (Nat.le_refl _)))
       clear hb ho)))
     all_goals
      go_wp2
      go_ret
      exact HV1.out
  ·rw [if_neg hM] at HN
   have gM : ((ba K).toList == [109, 117, 108, 116, 105, 112, 97, 114, 116]) = false := by rw [ba_toList]; show (K == wMulti) = false; simpa using hM
   clear hM
   by_cases hG : K = wMessage
   ·by_cases hS : S = wRfc
    ·by_cases h64 : co = wB64
     ·have HV := Lib.hid (show R = [] by rw [HN.out, if_neg (fun h => h.2.2.1 h64)])
      have gG : ((ba K).toList == [109, 101, 115, 115, 97, 103, 101]) = true := by rw [ba_toList, hG]; rfl
      have gS : ((ba S).toList == [114, 102, 99, 56, 50, 50]) = true := by rw [ba_toList, hS]; rfl
      have g64 : ((ba co).toList == [98, 97, 115, 101, 54, 52]) = true := by rw [ba_toList, h64]; rfl
      have g64_ : (ba co).toList = [98, 97, 115, 101, 54, 52] := by rw [ba_toList, h64]; rfl
      clear hG hS h64
      go_enter Tryz.func34, Tryz.ntmps34
      go_wp2
      go_ret
      exact in_nil HV.out HBW.out
     ·by_cases hq : co = wQp
      ·have HV := Lib.hid (show R = [] by rw [HN.out, if_neg (fun h => h.2.2.2 hq)])
       have gG : ((ba K).toList == [109, 101, 115, 115, 97, 103, 101]) = true := by rw [ba_toList, hG]; rfl
       have gS : ((ba S).toList == [114, 102, 99, 56, 50, 50]) = true := by rw [ba_toList, hS]; rfl
       have g64 : ((ba co).toList == [98, 97, 115, 101, 54, 52]) = false := by rw [ba_toList]; show (co == wB64) = false; simpa using h64
       have g64_ : ¬ (ba co).toList = [98, 97, 115, 101, 54, 52] := by rw [ba_toList]; exact h64
       have gq : ((ba co).toList == [113, 117, 111, 116, 101, 100, 45, 112, 114, 105, 110, 116, 97, 98, 108, 101]) = true := by rw [ba_toList, hq]; rfl
       have gq_ : (ba co).toList = [113, 117, 111, 116, 101, 100, 45, 112, 114, 105, 110, 116, 97, 98, 108, 101] := by rw [ba_toList, hq]; rfl
       clear hG hS h64 hq
       go_enter Tryz.func34, Tryz.ntmps34
       go_wp2
       go_ret
       exact in_nil HV.out HBW.out
      ·have HV := Lib.hid (show R = [(b, t)] by rw [HN.out, if_pos ⟨hG, hS, h64, hq⟩])
       have gG : ((ba K).toList == [109, 101, 115, 115, 97, 103, 101]) = true := by rw [ba_toList, hG]; rfl
       have gS : ((ba S).toList == [114, 102, 99, 56, 50, 50]) = true := by rw [ba_toList, hS]; rfl
       have g64 : ((ba co).toList == [98, 97, 115, 101, 54, 52]) = false := by rw [ba_toList]; show (co == wB64) = false; simpa using h64
       have g64_ : ¬ (ba co).toList = [98, 97, 115, 101, 54, 52] := by rw [ba_toList]; exact h64
       have gq : ((ba co).toList == [113, 117, 111, 116, 101, 100, 45, 112, 114, 105, 110, 116, 97, 98, 108, 101]) = false := by rw [ba_toList]; show (co == wQp) = false; simpa using hq
       have gq_ : ¬ (ba co).toList = [113, 117, 111, 116, 101, 100, 45, 112, 114, 105, 110, 116, 97, 98, 108, 101] := by rw [ba_toList]; exact hq
       clear hG hS h64 hq
       go_enter Tryz.func34, Tryz.ntmps34
       go_wp2
       go_ret
       exact in_one HV.out HBW.out (by omega) (by omega) (by simp)
    ·have HV := Lib.hid (show R = [] by rw [HN.out, if_neg (fun h => hS h.2.1)])
     have gG : ((ba K).toList == [109, 101, 115, 115, 97, 103, 101]) = true := by rw [ba_toList, hG]; rfl
     have gS : ((ba S).toList == [114, 102, 99, 56, 50, 50]) = false := by rw [ba_toList]; show (S == wRfc) = false; simpa using hS
     clear hG hS
     go_enter Tryz.func34, Tryz.ntmps34
     go_wp2
     go_ret
     exact in_nil HV.out HBW.out
   ·have HV := Lib.hid (show R = [] by rw [HN.out, if_neg (fun h => hG h.1)])
    have gG : ((ba K).toList == [109, 101, 115, 115, 97, 103, 101]) = false := by rw [ba_toList]; show (K == wMessage) = false; simpa using hG
    clear hG
    go_enter Tryz.func34, Tryz.ntmps34
    go_wp2
    go_ret
    exact in_nil HV.out HBW.out
end Go.Proofs.YthidbmeaccpjdaaGreatDoor
section
namespace Go.Proofs.YthidbmeaccpjdaaGreatDoor
open Go.RowKit
set_option linter.unusedVariables false
open Go.Shelf
attribute [local go_sem] Oper.semAt_some
structure NamedAt (w : World) (A : Option Addr) (m c : Nat) (key : List UInt8) (w' : World) : Prop where
 row : w'.cell? ⟨w.heap.size, 0, none⟩ = some (.slice A m c)
 key : w'.cell? ⟨w.heap.size + 1, 0, none⟩ = some (.string (ba key))
 bel : Below w.heap.size w w'
 siz : w.heap.size + 2 ≤ w'.heap.size
def NamedPost (w : World) (A : Option Addr) (m c : Nat) (key : List UInt8) (e : Ending) (w' : World) : Prop :=
 e = .returned (.func (.func 197) #[] #[.pointer (some ⟨w.heap.size, 0, none⟩), .pointer (some ⟨w.heap.size + 1, 0, none⟩)]) ∧ NamedAt w A m c key w'
set_option maxRecDepth 100000 in
set_option maxHeartbeats 4000000 in
theorem hnamed_any (A : Option Addr) (m c : Nat) (name : List UInt8) (w : World) (hn : name.length ≤ 1000000000) :
  Calls Tryz.prog 150 #[.slice A m c, .string (ba name)] w (NamedPost w A m c (smallP name)) := by
 have HB0 := Lib.hid (show Below w.heap.size w ((w.alloc (.cells #[.slice A m c] 84)).alloc (.cells #[.string (ba name)] 9)) from ((Below.refl _ _).alloc (Nat.le_refl _) _).alloc (by simp) _)
 have HX0 := Lib.hid (show ∀ W, W = ((w.alloc (.cells #[.slice A m c] 84)).alloc (.cells #[.string (ba name)] 9)) → W.heap[w.heap.size]? = some (.cells #[.slice A m c] 84 (0, 0)) ∧ W.heap[w.heap.size + 1]? = some (.cells #[.string (ba name)] 9 (0, 0)) ∧ W.heap.size = w.heap.size + 2 from by
  rintro W rfl
  refine ⟨(Go.RowKit.Below.heap_alloc _ _ _ (by simp)).trans (MapKept.heap_alloc w _).1, ?_, by simp⟩
  have h1 := (MapKept.heap_alloc (w.alloc (.cells #[.slice A m c] 84)) (.cells #[.string (ba name)] 9)).1
  simp only [World.size_alloc] at h1
  exact h1)
 have HSM := Lib.hid (fun W => hdsmall_any name W hn)
 unfold StrB at HSM
 go_enter Tryz.func150, Tryz.ntmps150
 go_wp2_with fail
 refine (HSM.out _).mono ?_
 rintro e w1 ⟨rfl, hb1⟩
 obtain ⟨x0, x1, xs⟩ := HX0.out _ rfl
 have y0 := (hb1.block w.heap.size (by rw [xs]; omega)).trans x0
 have y1 := (hb1.block (w.heap.size + 1) (by rw [xs]; omega)).trans x1
 have HB1 := Lib.hid (HB0.out.trans (hb1.mono HB0.out.size))
 have hz1 : w.heap.size + 2 ≤ w1.heap.size := by have := hb1.size; rw [xs] at this; exact this
 have k0 := cells_at y0 0 (u := .slice A m c) rfl
 have k1 := cells_at y1 0 (u := .string (ba name)) rfl
 have z1 := cells_free y1 0
 clear hb1 x0 x1 xs y0 y1
 go_wp2
 go_ret
 refine ⟨rfl, (World.cell?_setCell_other _ ⟨w.heap.size + 1, 0, none⟩ ⟨w.heap.size, 0, none⟩ _ (by simp)).trans k0, World.cell?_setCell_same' _ _ _ (by rw [k1]; rfl), HB1.out.setCell (by simp) _, by rw [World.size_setCell]; exact hz1⟩
theorem vals_head (name : List UInt8) (fs : List Fld) : (valsP (smallP name) fs).head? = getP fs name := by
 unfold valsP getP
 rw [List.head?_map, List.head?_filter]
 rfl
def GetPost9 (w : World) (o : Option (List UInt8)) (e : Ending) (w' : World) : Prop := e = .returned (.tuple #[.string (ba (o.getD [])), .bool o.isSome]) ∧ Below w.heap.size w w'
theorem get_fin {w w' : World} {o : Option (List UInt8)} {x : List UInt8} (h : o = some x) (hb : Below w.heap.size w w') : GetPost9 w o (.returned (.tuple #[.string (ba x), .bool true])) w' := by
 subst h
 exact ⟨rfl, hb⟩
theorem get_no {w w' : World} {o : Option (List UInt8)} (h : o = none) (hb : Below w.heap.size w w') : GetPost9 w o (.returned (.tuple #[.string ⟨#[]⟩, .bool false])) w' := by
 subst h
 exact ⟨rfl, hb⟩
structure GetBox (w : World) (s : ByteArray) (b : Bool) (W : World) : Prop where
 c0 : W.cell? ⟨w.heap.size, 0, none⟩ = some (.string s)
 c1 : W.cell? ⟨w.heap.size + 1, 0, none⟩ = some (.bool b)
 f0 : W.frozen? ⟨w.heap.size, 0, none⟩ = false
 f1 : W.frozen? ⟨w.heap.size + 1, 0, none⟩ = false
theorem GetBox.own {w : World} {s : ByteArray} {b : Bool} {A B : World} {row : Option Nat} (h : GetBox w s b A) (hg : A.grownBy B row) (hr : ∀ r, row = some r → ∃ o : Obj, A.heap[r]? = some o ∧ o.isCells = false) : GetBox w s b B :=
 ⟨cell_kept h.c0 hg hr, cell_kept h.c1 hg hr, (frozen_kept h.c0 hg hr).trans h.f0, (frozen_kept h.c1 hg hr).trans h.f1⟩
theorem GetBox.put {w : World} {s t : ByteArray} {b d : Bool} {W : World} (h : GetBox w s b W) : GetBox w t d ((W.setCell ⟨w.heap.size, 0, none⟩ (.string t)).setCell ⟨w.heap.size + 1, 0, none⟩ (.bool d)) := by
 refine ⟨?_, ?_, ?_, ?_⟩
 ·exact (World.cell?_setCell_other _ ⟨w.heap.size + 1, 0, none⟩ ⟨w.heap.size, 0, none⟩ _ (by simp)).trans (World.cell?_setCell_same' _ _ _ (by rw [h.c0]; rfl))
 ·exact World.cell?_setCell_same' _ _ _ (by rw [World.cell?_setCell_other _ ⟨w.heap.size, 0, none⟩ ⟨w.heap.size + 1, 0, none⟩ _ (by simp), h.c1]; rfl)
 ·rw [World.frozen?_setCell, World.frozen?_setCell]; exact h.f0
 ·rw [World.frozen?_setCell, World.frozen?_setCell]; exact h.f1
set_option maxRecDepth 100000 in
set_option maxHeartbeats 4000000 in
theorem hget_any (fs : List Fld) (A : Option Addr) (m c : Nat) (name : List UInt8) (w : World) (hF : Flds w w.heap.size A m fs) (hm : m ≤ 1000000000) (hfl : ∀ f ∈ fs, f.name.length ≤ 1000000000 ∧ f.value.length ≤ 1000000000) (hn : name.length ≤ 1000000000) (hT : Tabs w) :
  Calls Tryz.prog 75 #[.slice A m c, .string (ba name)] w (GetPost9 w (getP fs name)) := by
 have HNM := Lib.hid (fun W => hnamed_any A m c name W hn)
 unfold NamedPost at HNM
 have HVH := Lib.hid (vals_head name fs)
 obtain ⟨key, hkey⟩ : ∃ k, smallP name = k := ⟨_, rfl⟩
 simp only [hkey] at HNM
 rw [hkey] at HVH
 clear hkey
 refine (callsIn_wide (n := 9)).1 ?_
 refine callsIn_of_wp_marks Tryz.func75 rfl trivial ?_ rfl
 simp only [Tryz.ntmps75, List.size_toArray, List.length_cons, List.length_nil, Nat.reduceAdd, Nat.reduceSub, Array.replicate_succ, Array.replicate_zero, List.push_toArray, List.append_toArray, List.nil_append, List.cons_append]
 obtain ⟨W1, hW1⟩ : ∃ W1, (w.alloc (.cells #[.string ⟨#[]⟩] 9)).alloc (.cells #[.bool false] 4) = W1 := ⟨_, rfl⟩
 have HBX := Lib.hid (show GetBox w ⟨#[]⟩ false W1 by
  subst hW1
  constructor <;> simp)
 have HB1 := Lib.hid (show Below w.heap.size w W1 by subst hW1; exact ((Below.refl _ _).alloc (Nat.le_refl _) _).alloc (by simp) _)
 have hs1 : W1.heap.size = w.heap.size + 2 := by subst hW1; simp
 have HW1 := Lib.hid hW1
 clear hW1
 gi_wp2_with fail
 refine ⟨trivial, ?_⟩
 rw [HW1.out]
 refine (callsIn_wide.2 (HNM.out W1)).mono ?_
 rintro e W2 ⟨rfl, hN⟩
 have hb2 : Below w.heap.size w W2 := HB1.out.trans (hN.bel.mono HB1.out.size)
 have hbx2 : GetBox w ⟨#[]⟩ false W2 := HBX.out.own (row := none) ⟨hN.bel.os, hN.bel.tape, hN.bel.output, hN.bel.size, fun k hk _ => hN.bel.block k hk⟩ (fun r e => by cases e)
 have hsz2 : w.heap.size + 4 ≤ W2.heap.size := by have := hN.siz; omega
 have hF2 : Flds W2 W2.heap.size A m fs := (hF.below hb2).more hb2.size
 have hkr := hN.row
 have hkk := hN.key
 rw [hs1] at hkr hkk ⊢
 have hseq : SeqStopsK Fence.wide 8 Tryz.prog 197 #[.pointer (some ⟨w.heap.size + 2, 0, none⟩), .pointer (some ⟨w.heap.size + 2 + 1, 0, none⟩)] (fun x : List UInt8 => #[.string (ba x)]) (Below W2.heap.size) (fun xs => xs = valsP key fs) (fun pre => pre <+: valsP key fs) (valsP key fs).length W2 := by
  intro l J Jx W hW hJ hJx hY h0
  exact hnamed1_in l (w.heap.size + 2) (w.heap.size + 2 + 1) W2.heap.size m c W.heap.size fs A key J Jx hJ hY W (hF2.below hW) hm hfl hW.size (by omega)
   ((hW.cell (p := ⟨w.heap.size + 2, 0, none⟩) (by show w.heap.size + 2 < _; omega)).trans hkr) ((hW.cell (p := ⟨w.heap.size + 2 + 1, 0, none⟩) (by show w.heap.size + 2 + 1 < _; omega)).trans hkk)
   (fun W' hW' => hT.below (hb2.trans ((hW.trans hW').mono hb2.size))) h0
 have HSEQ := Lib.hid hseq
 have HVV := Lib.hid HVH.out
 clear hseq hN hkr hkk HNM HW1
 gi_wp2
 refine wpIn_rangeFunc_ownF rfl (by decide) (gf := 197) (lb := #[.pointer (some ⟨w.heap.size + 2, 0, none⟩), .pointer (some ⟨w.heap.size + 2 + 1, 0, none⟩)]) rfl trivial (enters_of Tryz.func197 (by kernel_rfl) rfl)
  HSEQ.out belowK_t (belowK_b (Nat.le_refl _)) (Below.refl _ _) (fun _ => rfl)
  (fun pre W => (pre = [] ∧ GetBox w ⟨#[]⟩ false W) ∧ Below w.heap.size w W)
  (fun cd pre W => (∃ x, pre = [x] ∧ cd = .ret ∧ GetBox w (ba x) true W) ∧ Below w.heap.size w W)
  (OwnFrom.and (Own.from (fun s A B row hs hg hr => ⟨hs.1, hs.2.own hg hr⟩) _) (ownFrom_below (Nat.le_refl _) (by omega)))
  (fun cd => OwnFrom.and (Own.from (fun s A B row hs hg hr => by obtain ⟨x, h1, h2, h3⟩ := hs; exact ⟨x, h1, h2, h3.own hg hr⟩) _) (ownFrom_below (Nat.le_refl _) (by omega)))
  ⟨⟨rfl, hbx2⟩, hb2⟩
  (fun x => { tmps := #[.slice A m c, .string (ba name), undef, undef, .pointer (some ⟨w.heap.size, 0, none⟩), .pointer (some ⟨w.heap.size + 1, 0, none⟩), .string (ba x), .slice A m c, .string (ba name), .func (.func 197) #[] #[.pointer (some ⟨w.heap.size + 2, 0, none⟩), .pointer (some ⟨w.heap.size + 2 + 1, 0, none⟩)], .string (ba x), undef], defers := [] }) ?assign ?body ?done ?stop
 case assign =>
  intro l x W K hK
  gi_wp2
  exact hK
 case body =>
  rintro l pre x W ⟨⟨rfl, hbx⟩, hB⟩ _
  have hput := hbx.put (t := ba x) (d := true)
  have hc0 := hbx.c0
  have hc1 := hbx.c1
  have hf0 := hbx.f0
  have hf1 := hbx.f1
  have HP := Lib.hid hput
  have HB := Lib.hid hB
  clear hput hbx hB
  gi_wp2
  exact ⟨(KeepsOthers.setCell _ _ _).trans (KeepsOthers.setCell _ _ _), ⟨x, rfl, rfl, HP.out⟩, (HB.out.setCell (p := ⟨w.heap.size, 0, none⟩) (Nat.le_refl _) _).setCell (p := ⟨w.heap.size + 1, 0, none⟩) (by simp) _⟩
 case done =>
  rintro D ys W hD hys ⟨⟨hnil, hbx⟩, hB⟩ hK
  have HO := Lib.hid (show getP fs name = none by rw [← HVV.out, ← hys, hnil]; rfl)
  have hput := hbx.put (t := ⟨#[]⟩) (d := false)
  have hc0 := hbx.c0
  have hc1 := hbx.c1
  have hf0 := hbx.f0
  have hf1 := hbx.f1
  have HP := Lib.hid hput
  have HB := Lib.hid hB
  have HK := Lib.hid hK
  have HD := Lib.hid hD
  clear hput hbx hB hK hD hys hnil
  gi_wp2
  have hK' := ((KeepsOthers.setCell W ⟨w.heap.size, 0, none⟩ (.string ⟨#[]⟩)).trans (KeepsOthers.setCell _ ⟨w.heap.size + 1, 0, none⟩ (.bool false))).same D _ HK.out rfl
  refine ⟨by simp, .inl ⟨_, _, rfl, run_takeDeferred hK', ?_⟩⟩
  have hq0 := cell_kept HP.out.c0 (grownBy_putObj' _ D (.deferred none)) (fun r e => by cases e; exact ⟨_, hK', rfl⟩)
  have hq1 := cell_kept HP.out.c1 (grownBy_putObj' _ D (.deferred none)) (fun r e => by cases e; exact ⟨_, hK', rfl⟩)
  refine ⟨.tuple #[.string ⟨#[]⟩, .bool false], ?_, get_no HO.out ((((HB.out.setCell (p := ⟨w.heap.size, 0, none⟩) (Nat.le_refl _) _).setCell (p := ⟨w.heap.size + 1, 0, none⟩) (by simp) _)).trans (belowK_b (w := w) (Nat.le_refl _) _ D _ _ (by have := HD.out; omega) hK' rfl rfl))⟩
  simp [results, Tryz.results75, go_sem, hq0, hq1]
 case stop =>
  rintro D cd pre W hD hpre ⟨⟨x, rfl, rfl, hbx⟩, hB⟩ hK
  have HO := Lib.hid (show getP fs name = some x by
   obtain ⟨r, hr⟩ := hpre
   rw [← HVV.out, ← hr]
   rfl)
  gi_wp2
  refine ⟨by simp, .inl ⟨_, _, rfl, run_takeDeferred hK, ?_⟩⟩
  have hq0 := cell_kept hbx.c0 (grownBy_putObj' _ D (.deferred none)) (fun r e => by cases e; exact ⟨_, hK, rfl⟩)
  have hq1 := cell_kept hbx.c1 (grownBy_putObj' _ D (.deferred none)) (fun r e => by cases e; exact ⟨_, hK, rfl⟩)
  refine ⟨.tuple #[.string (ba x), .bool true], ?_, get_fin HO.out (hB.trans (belowK_b (w := w) (Nat.le_refl _) W D _ _ (by omega) hK rfl rfl))⟩
  simp [results, Tryz.results75, go_sem, hq0, hq1]
end Go.Proofs.YthidbmeaccpjdaaGreatDoor
end
