/- Layer 9: the contracts of named and Get. Layer 14: the contract of lower. -/
import Derived.RangeFuncFrom
import Derived.Test.YthidbmeaccpjdaaGreatDoorM16
import Derived.Test.YthidbmeaccpjdaaGreatDoorM02
section
namespace Go.Proofs.YthidbmeaccpjdaaGreatDoor
open Go.RowKit
set_option linter.unusedVariables false
open Go.Shelf
attribute [local go_sem] Oper.semAt_some
structure NamedAt (w : World) (A : Option Addr) (m c : Nat) (key : List UInt8) (w' : World) : Prop where
 row : w'.cell? ⟨w.heap.size, 0, none⟩ = some (.slice A m c)
 key : w'.cell? ⟨w.heap.size + 1, 0, none⟩ = some (.string (ba key))
 bel : Below w.heap.size w w'
 siz : w.heap.size + 2 ≤ w'.heap.size
def NamedPost (w : World) (A : Option Addr) (m c : Nat) (key : List UInt8) (e : Ending) (w' : World) : Prop :=
 e = .returned (.func (.func 197) #[] #[.pointer (some ⟨w.heap.size, 0, none⟩), .pointer (some ⟨w.heap.size + 1, 0, none⟩)]) ∧ NamedAt w A m c key w'
set_option maxRecDepth 100000 in
set_option maxHeartbeats 4000000 in
theorem hnamed_any (A : Option Addr) (m c : Nat) (name : List UInt8) (w : World) (hn : name.length ≤ 1000000000) :
  Calls Tryz.prog 150 #[.slice A m c, .string (ba name)] w (NamedPost w A m c (smallP name)) := by
 have HB0 := Lib.hid (show Below w.heap.size w ((w.alloc (.cells #[.slice A m c] 84)).alloc (.cells #[.string (ba name)] 9)) from ((Below.refl _ _).alloc (Nat.le_refl _) _).alloc (by simp) _)
 have HX0 := Lib.hid (show ∀ W, W = ((w.alloc (.cells #[.slice A m c] 84)).alloc (.cells #[.string (ba name)] 9)) → W.heap[w.heap.size]? = some (.cells #[.slice A m c] 84 (0, 0)) ∧ W.heap[w.heap.size + 1]? = some (.cells #[.string (ba name)] 9 (0, 0)) ∧ W.heap.size = w.heap.size + 2 from by
  rintro W rfl
  refine ⟨(Go.RowKit.Below.heap_alloc _ _ _ (by simp)).trans (MapKept.heap_alloc w _).1, ?_, by simp⟩
  have h1 := (MapKept.heap_alloc (w.alloc (.cells #[.slice A m c] 84)) (.cells #[.string (ba name)] 9)).1
  simp only [World.size_alloc] at h1
  exact h1)
 have HSM := Lib.hid (fun W => hdsmall_any name W hn)
 unfold StrB at HSM
 go_enter Tryz.func150, Tryz.ntmps150
 go_wp2_with fail
 refine (HSM.out _).mono ?_
 rintro e w1 ⟨rfl, hb1⟩
 obtain ⟨x0, x1, xs⟩ := HX0.out _ rfl
 have y0 := (hb1.block w.heap.size (by rw [xs]; omega)).trans x0
 have y1 := (hb1.block (w.heap.size + 1) (by rw [xs]; omega)).trans x1
 have HB1 := Lib.hid (HB0.out.trans (hb1.mono HB0.out.size))
 have hz1 : w.heap.size + 2 ≤ w1.heap.size := by have := hb1.size; rw [xs] at this; exact this
 have k0 := cells_at y0 0 (u := .slice A m c) rfl
 have k1 := cells_at y1 0 (u := .string (ba name)) rfl
 have z1 := cells_free y1 0
 clear hb1 x0 x1 xs y0 y1
 go_wp2
 go_ret
 refine ⟨rfl, (World.cell?_setCell_other _ ⟨w.heap.size + 1, 0, none⟩ ⟨w.heap.size, 0, none⟩ _ (by simp)).trans k0, World.cell?_setCell_same' _ _ _ (by rw [k1]; rfl), HB1.out.setCell (by simp) _, by rw [World.size_setCell]; exact hz1⟩
theorem vals_head (name : List UInt8) (fs : List Fld) : (valsP (smallP name) fs).head? = getP fs name := by
 unfold valsP getP
 rw [List.head?_map, List.head?_filter]
 rfl
def GetPost9 (w : World) (o : Option (List UInt8)) (e : Ending) (w' : World) : Prop := e = .returned (.tuple #[.string (ba (o.getD [])), .bool o.isSome]) ∧ Below w.heap.size w w'
theorem get_fin {w w' : World} {o : Option (List UInt8)} {x : List UInt8} (h : o = some x) (hb : Below w.heap.size w w') : GetPost9 w o (.returned (.tuple #[.string (ba x), .bool true])) w' := by
 subst h
 exact ⟨rfl, hb⟩
theorem get_no {w w' : World} {o : Option (List UInt8)} (h : o = none) (hb : Below w.heap.size w w') : GetPost9 w o (.returned (.tuple #[.string ⟨#[]⟩, .bool false])) w' := by
 subst h
 exact ⟨rfl, hb⟩
structure GetBox (w : World) (s : ByteArray) (b : Bool) (W : World) : Prop where
 c0 : W.cell? ⟨w.heap.size, 0, none⟩ = some (.string s)
 c1 : W.cell? ⟨w.heap.size + 1, 0, none⟩ = some (.bool b)
 f0 : W.frozen? ⟨w.heap.size, 0, none⟩ = false
 f1 : W.frozen? ⟨w.heap.size + 1, 0, none⟩ = false
theorem GetBox.own {w : World} {s : ByteArray} {b : Bool} {A B : World} {row : Option Nat} (h : GetBox w s b A) (hg : A.grownBy B row) (hr : ∀ r, row = some r → ∃ o : Obj, A.heap[r]? = some o ∧ o.isCells = false) : GetBox w s b B :=
 ⟨cell_kept h.c0 hg hr, cell_kept h.c1 hg hr, (frozen_kept h.c0 hg hr).trans h.f0, (frozen_kept h.c1 hg hr).trans h.f1⟩
theorem GetBox.put {w : World} {s t : ByteArray} {b d : Bool} {W : World} (h : GetBox w s b W) : GetBox w t d ((W.setCell ⟨w.heap.size, 0, none⟩ (.string t)).setCell ⟨w.heap.size + 1, 0, none⟩ (.bool d)) := by
 refine ⟨?_, ?_, ?_, ?_⟩
 ·exact (World.cell?_setCell_other _ ⟨w.heap.size + 1, 0, none⟩ ⟨w.heap.size, 0, none⟩ _ (by simp)).trans (World.cell?_setCell_same' _ _ _ (by rw [h.c0]; rfl))
 ·exact World.cell?_setCell_same' _ _ _ (by rw [World.cell?_setCell_other _ ⟨w.heap.size, 0, none⟩ ⟨w.heap.size + 1, 0, none⟩ _ (by simp), h.c1]; rfl)
 ·rw [World.frozen?_setCell, World.frozen?_setCell]; exact h.f0
 ·rw [World.frozen?_setCell, World.frozen?_setCell]; exact h.f1
set_option maxRecDepth 100000 in
set_option maxHeartbeats 4000000 in
theorem hget_any (fs : List Fld) (A : Option Addr) (m c : Nat) (name : List UInt8) (w : World) (hF : Flds w w.heap.size A m fs) (hm : m ≤ 1000000000) (hfl : ∀ f ∈ fs, f.name.length ≤ 1000000000 ∧ f.value.length ≤ 1000000000) (hn : name.length ≤ 1000000000) (hT : Tabs w) :
  Calls Tryz.prog 75 #[.slice A m c, .string (ba name)] w (GetPost9 w (getP fs name)) := by
 have HNM := Lib.hid (fun W => hnamed_any A m c name W hn)
 unfold NamedPost at HNM
 have HVH := Lib.hid (vals_head name fs)
 obtain ⟨key, hkey⟩ : ∃ k, smallP name = k := ⟨_, rfl⟩
 simp only [hkey] at HNM
 rw [hkey] at HVH
 clear hkey
 refine (callsIn_wide (n := 9)).1 ?_
 refine callsIn_of_wp_marks Tryz.func75 rfl trivial ?_ rfl
 simp only [Tryz.ntmps75, List.size_toArray, List.length_cons, List.length_nil, Nat.reduceAdd, Nat.reduceSub, Array.replicate_succ, Array.replicate_zero, List.push_toArray, List.append_toArray, List.nil_append, List.cons_append]
 obtain ⟨W1, hW1⟩ : ∃ W1, (w.alloc (.cells #[.string ⟨#[]⟩] 9)).alloc (.cells #[.bool false] 4) = W1 := ⟨_, rfl⟩
 have HBX := Lib.hid (show GetBox w ⟨#[]⟩ false W1 by
  subst hW1
  constructor <;> simp)
 have HB1 := Lib.hid (show Below w.heap.size w W1 by subst hW1; exact ((Below.refl _ _).alloc (Nat.le_refl _) _).alloc (by simp) _)
 have hs1 : W1.heap.size = w.heap.size + 2 := by subst hW1; simp
 have HW1 := Lib.hid hW1
 clear hW1
 gi_wp2_with fail
 refine ⟨trivial, ?_⟩
 rw [HW1.out]
 refine (callsIn_wide.2 (HNM.out W1)).mono ?_
 rintro e W2 ⟨rfl, hN⟩
 have hb2 : Below w.heap.size w W2 := HB1.out.trans (hN.bel.mono HB1.out.size)
 have hbx2 : GetBox w ⟨#[]⟩ false W2 := HBX.out.own (row := none) ⟨hN.bel.os, hN.bel.tape, hN.bel.output, hN.bel.size, fun k hk _ => hN.bel.block k hk⟩ (fun r e => by cases e)
 have hsz2 : w.heap.size + 4 ≤ W2.heap.size := by have := hN.siz; omega
 have hF2 : Flds W2 W2.heap.size A m fs := (hF.below hb2).more hb2.size
 have hkr := hN.row
 have hkk := hN.key
 rw [hs1] at hkr hkk ⊢
 have hseq : SeqStopsK Fence.wide 8 Tryz.prog 197 #[.pointer (some ⟨w.heap.size + 2, 0, none⟩), .pointer (some ⟨w.heap.size + 2 + 1, 0, none⟩)] (fun x : List UInt8 => #[.string (ba x)]) (Below W2.heap.size) (fun xs => xs = valsP key fs) (fun pre => pre <+: valsP key fs) (valsP key fs).length W2 := by
  intro l J Jx W hW hJ hJx hY h0
  exact hnamed1_in l (w.heap.size + 2) (w.heap.size + 2 + 1) W2.heap.size m c W.heap.size fs A key J Jx hJ hY W (hF2.below hW) hm hfl hW.size (by omega)
   ((hW.cell (p := ⟨w.heap.size + 2, 0, none⟩) (by show w.heap.size + 2 < _; omega)).trans hkr) ((hW.cell (p := ⟨w.heap.size + 2 + 1, 0, none⟩) (by show w.heap.size + 2 + 1 < _; omega)).trans hkk)
   (fun W' hW' => hT.below (hb2.trans ((hW.trans hW').mono hb2.size))) h0
 have HSEQ := Lib.hid hseq
 have HVV := Lib.hid HVH.out
 clear hseq hN hkr hkk HNM HW1
 gi_wp2
 refine wpIn_rangeFunc_ownF rfl (by decide) (gf := 197) (lb := #[.pointer (some ⟨w.heap.size + 2, 0, none⟩), .pointer (some ⟨w.heap.size + 2 + 1, 0, none⟩)]) rfl trivial (enters_of Tryz.func197 (by kernel_rfl) rfl)
  HSEQ.out belowK_t (belowK_b (Nat.le_refl _)) (Below.refl _ _) (fun _ => rfl)
  (fun pre W => (pre = [] ∧ GetBox w ⟨#[]⟩ false W) ∧ Below w.heap.size w W)
  (fun cd pre W => (∃ x, pre = [x] ∧ cd = .ret ∧ GetBox w (ba x) true W) ∧ Below w.heap.size w W)
  (OwnFrom.and (Own.from (fun s A B row hs hg hr => ⟨hs.1, hs.2.own hg hr⟩) _) (ownFrom_below (Nat.le_refl _) (by omega)))
  (fun cd => OwnFrom.and (Own.from (fun s A B row hs hg hr => by obtain ⟨x, h1, h2, h3⟩ := hs; exact ⟨x, h1, h2, h3.own hg hr⟩) _) (ownFrom_below (Nat.le_refl _) (by omega)))
  ⟨⟨rfl, hbx2⟩, hb2⟩
  (fun x => { tmps := #[.slice A m c, .string (ba name), undef, undef, .pointer (some ⟨w.heap.size, 0, none⟩), .pointer (some ⟨w.heap.size + 1, 0, none⟩), .string (ba x), .slice A m c, .string (ba name), .func (.func 197) #[] #[.pointer (some ⟨w.heap.size + 2, 0, none⟩), .pointer (some ⟨w.heap.size + 2 + 1, 0, none⟩)], .string (ba x), undef], defers := [] }) ?assign ?body ?done ?stop
 case assign =>
  intro l x W K hK
  gi_wp2
  exact hK
 case body =>
  rintro l pre x W ⟨⟨rfl, hbx⟩, hB⟩ _
  have hput := hbx.put (t := ba x) (d := true)
  have hc0 := hbx.c0
  have hc1 := hbx.c1
  have hf0 := hbx.f0
  have hf1 := hbx.f1
  have HP := Lib.hid hput
  have HB := Lib.hid hB
  clear hput hbx hB
  gi_wp2
  exact ⟨(KeepsOthers.setCell _ _ _).trans (KeepsOthers.setCell _ _ _), ⟨x, rfl, rfl, HP.out⟩, (HB.out.setCell (p := ⟨w.heap.size, 0, none⟩) (Nat.le_refl _) _).setCell (p := ⟨w.heap.size + 1, 0, none⟩) (by simp) _⟩
 case done =>
  rintro D ys W hD hys ⟨⟨hnil, hbx⟩, hB⟩ hK
  have HO := Lib.hid (show getP fs name = none by rw [← HVV.out, ← hys, hnil]; rfl)
  have hput := hbx.put (t := ⟨#[]⟩) (d := false)
  have hc0 := hbx.c0
  have hc1 := hbx.c1
  have hf0 := hbx.f0
  have hf1 := hbx.f1
  have HP := Lib.hid hput
  have HB := Lib.hid hB
  have HK := Lib.hid hK
  have HD := Lib.hid hD
  clear hput hbx hB hK hD hys hnil
  gi_wp2
  have hK' := ((KeepsOthers.setCell W ⟨w.heap.size, 0, none⟩ (.string ⟨#[]⟩)).trans (KeepsOthers.setCell _ ⟨w.heap.size + 1, 0, none⟩ (.bool false))).same D _ HK.out rfl
  refine ⟨by simp, .inl ⟨_, _, rfl, run_takeDeferred hK', ?_⟩⟩
  have hq0 := cell_kept HP.out.c0 (grownBy_putObj' _ D (.deferred none)) (fun r e => by cases e; exact ⟨_, hK', rfl⟩)
  have hq1 := cell_kept HP.out.c1 (grownBy_putObj' _ D (.deferred none)) (fun r e => by cases e; exact ⟨_, hK', rfl⟩)
  refine ⟨.tuple #[.string ⟨#[]⟩, .bool false], ?_, get_no HO.out ((((HB.out.setCell (p := ⟨w.heap.size, 0, none⟩) (Nat.le_refl _) _).setCell (p := ⟨w.heap.size + 1, 0, none⟩) (by simp) _)).trans (belowK_b (w := w) (Nat.le_refl _) _ D _ _ (by have := HD.out; omega) hK' rfl rfl))⟩
  simp [results, Tryz.results75, go_sem, hq0, hq1]
 case stop =>
  rintro D cd pre W hD hpre ⟨⟨x, rfl, rfl, hbx⟩, hB⟩ hK
  have HO := Lib.hid (show getP fs name = some x by
   obtain ⟨r, hr⟩ := hpre
   rw [← HVV.out, ← hr]
   rfl)
  gi_wp2
  refine ⟨by simp, .inl ⟨_, _, rfl, run_takeDeferred hK, ?_⟩⟩
  have hq0 := cell_kept hbx.c0 (grownBy_putObj' _ D (.deferred none)) (fun r e => by cases e; exact ⟨_, hK, rfl⟩)
  have hq1 := cell_kept hbx.c1 (grownBy_putObj' _ D (.deferred none)) (fun r e => by cases e; exact ⟨_, hK, rfl⟩)
  refine ⟨.tuple #[.string (ba x), .bool true], ?_, get_fin HO.out (hB.trans (belowK_b (w := w) (Nat.le_refl _) W D _ _ (by omega) hK rfl rfl))⟩
  simp [results, Tryz.results75, go_sem, hq0, hq1]
end Go.Proofs.YthidbmeaccpjdaaGreatDoor
end
section
namespace Go.Proofs.YthidbmeaccpjdaaGreatDoor
open Go.RowKit
set_option linter.unusedVariables false
set_option maxRecDepth 100000 in
set_option maxHeartbeats 4000000 in
theorem mlower_any (l : List UInt8) (w : World) (hl : l.length ≤ 1000000000) :
  Calls Tryz.prog 79 #[.string (ba l)] w (StrB w (smallP l)) := by
 have hcv := fun (W : World) (S : ByteArray) => run_bytes_of_string (P := Tryz.prog) W 9 62 5 S Tryz.underlying9 Tryz.underlying62 Tryz.underlying5
 have HR0 := Lib.hid (fun (cap m : Nat) (hm : l.length ≤ m) => ByteRow.of_string w l cap 5 m hm)
 obtain ⟨n, hn⟩ : ∃ n, l.length = n := ⟨_, rfl⟩
 have HL := Lib.hid hn
 obtain ⟨s, hs⟩ : ∃ s, ba l = s := ⟨_, rfl⟩
 have HS := Lib.hid hs
 have HZ := Lib.hid (show s.size = n by rw [← hs, ba_size, hn])
 have hsz : (s.size : Int) = n := by rw [HZ.out]
 rw [hs]
 rw [hn] at hl
 clear hs hn
 rw [HS.out] at HR0
 go_enter Tryz.func79, Tryz.ntmps79
 go_wp2
 obtain ⟨C, hC⟩ : ∃ C, grownCap w s.size 0 5 = C := ⟨_, rfl⟩
 have HCN := Lib.hid (show l.length ≤ (bytesRow s C).size by rw [bytesRow_size s C (by rw [← hC]; have := grownCap_ge w s.size 0 5; omega), ← hC, HL.out]; have := grownCap_ge w s.size 0 5; omega)
 rw [hC]
 clear hC hcv
 go_loopw [10] (fun i wr => ∃ k : Nat, k ≤ n ∧ i = .int .i64 (k : Int) ∧ Hid (SmRel w l k wr)) (fun i _ => n - (intOf i).toNat)
 case atStart =>
  refine ⟨0, Nat.zero_le _, rfl, Lib.hid ⟨?_, (Below.refl _ _).drew.alloc (Nat.le_refl _) _⟩⟩
  rw [show smallP (l.take 0) ++ l.drop 0 = l from rfl]
  exact (HR0.out C _ HCN.out).drew
 case round =>
  obtain ⟨k, hk, rfl, HR⟩ := hrel
  have hsz2 := HR.out.bel.size
  by_cases hlt : k < n
  ·have hk2 : (k : Int) < (n : Int) := by omega
   have hk3 : (k : Int) < (s.size : Int) := by omega
   have hk0 : (0 : Int) ≤ (k : Int) := by omega
   have hkl : k < l.length := by rw [HL.out]; exact hlt
   have hks : k < (smallP (l.take k) ++ l.drop k).length := by rw [sm_len]; exact hkl
   have hcell := HR.out.row.cell hks
   have hfree := HR.out.row.free hks
   rw [sm_get hkl hks] at hcell
   have HST := Lib.hid (sm_step hkl)
   have HSA := Lib.hid (sm_same hkl)
   have HSET := Lib.hid (HR.out.row.set hks (smallB l[k]))
   obtain ⟨c, hc⟩ : ∃ c, l[k] = c := ⟨_, rfl⟩
   rw [hc] at hcell HST HSA HSET
   have HY := Lib.hid (smallB_yes (c := c))
   have HNO := Lib.hid (smallB_no (c := c))
   obtain ⟨x, hx⟩ : ∃ x : Int, (c.toNat : Int) = x := ⟨_, rfl⟩
   rw [hx] at hcell HY HNO
   have hx0 : 0 ≤ x := by omega
   have hx1 : x ≤ 255 := by have := c.toNat_lt; omega
   have HX := Lib.hid hx
   clear hc hkl hks hx
   by_cases e1 : 65 ≤ x
   ·by_cases e2 : x ≤ 90
    ·have g1 : decide (65 ≤ x) = true := decide_eq_true e1
     have g2 : decide (x ≤ 90) = true := decide_eq_true e2
     have HV := Lib.hid (show (smallB c).toNat = x + 32 by rw [HY.out ⟨e1, e2⟩]; have := HX.out; have := c.toNat_lt; simp; omega)
     go_wp2
     go_roundw
     case rel =>
      refine ⟨k + 1, by omega, by go_num, Lib.hid ⟨?_, HR.out.bel.setCell (Nat.le_refl _) _⟩⟩
      rw [HST.out]
      have := HSET.out
      rw [HV.out] at this
      exact this
     case measure => simp [intOf] <;> omega
    ·have g1 : decide (65 ≤ x) = true := decide_eq_true e1
     have g2 : decide (x ≤ 90) = false := decide_eq_false e2
     have HV := Lib.hid (HSA.out (HNO.out fun h => e2 h.2))
     clear hfree
     go_wp2
     go_roundw
     case rel =>
      refine ⟨k + 1, by omega, by go_num, Lib.hid ⟨?_, HR.out.bel⟩⟩
      rw [HV.out]
      exact HR.out.row
     case measure => simp [intOf] <;> omega
   ·have g1 : decide (65 ≤ x) = false := decide_eq_false e1
    have HV := Lib.hid (HSA.out (HNO.out fun h => e1 h.1))
    clear hfree
    go_wp2
    go_roundw
    case rel =>
     refine ⟨k + 1, by omega, by go_num, Lib.hid ⟨?_, HR.out.bel⟩⟩
     rw [HV.out]
     exact HR.out.row
    case measure => simp [intOf] <;> omega
  ·obtain rfl : k = n := by omega
   have hrow : ByteRow wr w.heap.size (smallP l) := by
    have := HR.out.row
    rw [List.take_of_length_le (by rw [HL.out]; exact Nat.le_refl _), List.drop_of_length_le (by rw [HL.out]; exact Nat.le_refl _), List.append_nil] at this
    exact this
   have hback := run_convert_bytes_back (P := Tryz.prog) wr 62 9 5 ⟨w.heap.size, 0, none⟩ C (smallP l) Tryz.underlying62 Tryz.underlying5 Tryz.underlying9 hrow.cells
   rw [smallP_len, HL.out, ← HZ.out] at hback
   clear hrow hsz
   go_wp2
   go_ret
   exact ⟨rfl, HR.out.bel⟩
end Go.Proofs.YthidbmeaccpjdaaGreatDoor
end
