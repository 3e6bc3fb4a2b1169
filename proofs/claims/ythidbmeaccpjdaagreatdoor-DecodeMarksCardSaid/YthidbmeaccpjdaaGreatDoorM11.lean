/- Layer 9: Replace of a new Replacer of bytes: built once, then asked (printed by gen_hdr. Layer 10: the contract of Value. Layer 1: the contract of Hex. Layer 1: the contract of Unhex. -/
import Derived.Deep.QuietTactic
import Derived.IntWalk
import Derived.BigQuiet
import Derived.Test.YthidbmeaccpjdaaGreatDoorM10
import Derived.Test.YthidbmeaccpjdaaGreatDoorM08
import Derived.Test.YthidbmeaccpjdaaGreatDoorM03
import Derived.Test.YthidbmeaccpjdaaGreatDoorM04
namespace Go.Proofs.YthidbmeaccpjdaaGreatDoor
open Go.RowKit
set_option linter.unusedVariables false
set_option maxHeartbeats 4000000
def AirRepl (B : Nat) (w : World) (R : Nat) : Prop := RowV w R 256 (airF true true) ∧ B ≤ R
theorem AirRepl.kept {B : Nat} {w w' : World} {R : Nat} (h : AirRepl B w R) (hb : ∀ k, B ≤ k → k < w.heap.size → w'.heap[k]? = w.heap[k]?) : AirRepl B w' R := ⟨h.1.kept (hb R h.2 h.1.lt), h.2⟩
structure OnceA (w : World) (b : Nat) (w2 : World) : Prop where
 ex : ∃ R, RowV w2 b 5 (repF 0 1 (.iface 223 (.pointer (some ⟨R, 0, none⟩))) (.slice none 0 0)) ∧ AirRepl w.heap.size w2 R
 bel : ∀ k, k < w.heap.size → k ≠ b → w2.heap[k]? = w.heap[k]?
 rest : w2.os = w.os ∧ w2.tape = w.tape ∧ w2.output = w.output ∧ w.heap.size ≤ w2.heap.size
set_option maxRecDepth 100000 in
theorem airOnce_any (b g c : Nat) (w : World) (hrow : RowV w b 5 (repF 0 1 .nilIface (.slice (some ⟨g, 0, none⟩) 4 c))) (hg : g < w.heap.size) (hs : ∀ j u, (sv airStrs)[j]? = some u → w.cell? ((⟨g, 0, none⟩ : Addr).add j) = some u) :
  Calls Tryz.prog 133 #[.pointer (some ⟨b, 0, none⟩)] w fun e w2 => e = .returned (.tuple #[]) ∧ OnceA w b w2 := by
 have HB := Lib.hid (airbuild_any b g c w (hrow.cell (j := 4) (by omega)) hg hs)
 have HROW := Lib.hid (fun (w1 : World) (hb : Below w.heap.size w w1) => hrow.kept (hb.block b hrow.lt))
 have hlt := hrow.lt
 clear hrow hs
 go_enter Tryz.func133, Tryz.ntmps133
 go_wp2_with fail
 refine HB.out.mono ?_
 rintro e w1 ⟨R, rfl, hRow, hRlow, hb⟩
 have hR : AirRepl w.heap.size w1 R := ⟨hRow, hRlow⟩
 clear hRow hRlow
 have HR := Lib.hid hR
 have HBE := Lib.hid hb
 have HRW := Lib.hid (HROW.out w1 hb)
 have r3 : w1.cell? ⟨b, 3, none⟩ = some .nilIface := HRW.out.cell (j := 3) (by omega)
 have r4 : w1.cell? ⟨b, 4, none⟩ = some (.slice (some ⟨g, 0, none⟩) 4 c) := HRW.out.cell (j := 4) (by omega)
 have z3 := HRW.out.free 3
 have z4 := HRW.out.free 4
 clear hR hb
 go_wp2
 go_end0
 refine ⟨rfl, ⟨R, ?_, ?_⟩, fun k hk hne => ?_, HBE.out.os, HBE.out.tape, HBE.out.output, ?_⟩
 ·refine ((HRW.out.set (k := 3) (by omega) _).set (k := 4) (by omega) _).congr fun j hj => ?_
  match j, hj with
  | 0, _ => rfl
  | 1, _ => rfl
  | 2, _ => rfl
  | 3, _ => rfl
  | 4, _ => rfl
 ·refine HR.out.kept fun k hk _ => ?_
  rw [heap_setCell_other _ _ _ _ (by show k ≠ b; omega), heap_setCell_other _ _ _ _ (by show k ≠ b; omega)]
 ·rw [heap_setCell_other _ _ _ _ hne, heap_setCell_other _ _ _ _ hne]
  exact HBE.out.block k hk
 ·rw [World.size_setCell, World.size_setCell]
  exact HBE.out.size
set_option maxRecDepth 100000 in
theorem airreplace_any (l : List UInt8) (b g c : Nat) (w0 w : World) (hl : l.length ≤ 1000000000) (hN : AirRepAt w0 w b g c) :
  Calls Tryz.prog 67 #[.pointer (some ⟨b, 0, none⟩), .string (ba l)] w fun e w' => e = .returned (.string (ba (airP l))) ∧ Below w0.heap.size w0 w' := by
 have h0 : w.cell? ⟨b, 0, none⟩ = some (.int .u32 0) := hN.row.cell (j := 0) (by omega)
 have h1 : w.cell? ⟨b, 1, none⟩ = some (.int .i32 0) := hN.row.cell (j := 1) (by omega)
 have f0 := hN.row.free 0
 have f1 := hN.row.free 1
 have hblt := hN.row.lt
 have hW : RowV (w.setCell ⟨b, 1, none⟩ (.int .i32 1)) b 5 (repF 0 1 .nilIface (.slice (some ⟨g, 0, none⟩) 4 c)) := (hN.row.set (k := 1) (by omega) _).congr fun j hj => by
  match j, hj with
  | 0, _ => rfl
  | 1, _ => rfl
  | 2, _ => rfl
  | 3, _ => rfl
  | 4, _ => rfl
 have HBO := Lib.hid (airOnce_any b g c (w.setCell ⟨b, 1, none⟩ (.int .i32 1)) hW (by rw [World.size_setCell]; exact hN.glt) fun j u hu => by
  have h := hN.strs j u hu
  rw [add_base] at h ⊢
  rw [World.cell?_setCell_other _ _ _ _ (by intro e; injection e with e; exact hN.ne e.symm)]
  exact h)
 have HDO := Lib.hid (onceDo_any b w (OnceA (w.setCell ⟨b, 1, none⟩ (.int .i32 1)) b) h0 h1 f0 f1 HBO.out fun w2 hk => by
  obtain ⟨R, hr, _⟩ := hk.ex
  exact ⟨hr.cell (j := 0) (by omega), hr.cell (j := 1) (by omega), hr.free 0, hr.free 1⟩)
 have HAFT := Lib.hid (show ∀ w2, OnceA (w.setCell ⟨b, 1, none⟩ (.int .i32 1)) b w2 → ∃ R, (onceW b w2).cell? ⟨b, 3, none⟩ = some (.iface 223 (.pointer (some ⟨R, 0, none⟩))) ∧ AirRepl w.heap.size (onceW b w2) R ∧ Below w0.heap.size w0 (onceW b w2) from fun w2 hk => by
  obtain ⟨R, hr, hR⟩ := hk.ex
  rw [World.size_setCell] at hR
  obtain ⟨q1, q2, q3, q4⟩ := hk.rest
  rw [World.size_setCell] at q4
  refine ⟨R, ?_, hR.kept fun k h5 h6 => ?_, hN.bel.trans ⟨q1, q2, q3, ?_, fun k h5 => ?_⟩⟩
  ·have := ((hr.drew.set (k := 0) (by omega) (.int .u32 1)).set (k := 1) (by omega) (.int .i32 0)).cell (j := 3) (by omega)
   exact this
  ·unfold onceW
   rw [heap_setCell_other _ _ _ _ (by show k ≠ b; omega), heap_setCell_other _ _ _ _ (by show k ≠ b; omega)]
   rfl
  ·unfold onceW
   rw [World.size_setCell, World.size_setCell]
   exact q4
  ·have h6 := hN.low
   have h7 := hN.bel.size
   unfold onceW
   rw [heap_setCell_other _ _ _ _ (by show k ≠ b; omega), heap_setCell_other _ _ _ _ (by show k ≠ b; omega)]
   refine (hk.bel k (by rw [World.size_setCell]; omega) (by omega)).trans ?_
   exact heap_setCell_other _ _ _ _ (by show k ≠ b; omega))
 have HSZ := Lib.hid hN.bel.size
 clear hW HBO hN h0 h1 f0 f1
 go_enter Tryz.func67, Tryz.ntmps67
 go_wp2_with fail
 refine HDO.out.mono ?_
 rintro e w' ⟨rfl, w2, hk, rfl⟩
 obtain ⟨R, c3, hR, hb⟩ := HAFT.out w2 hk
 generalize onceW b w2 = w3 at c3 hR hb ⊢
 have HR := Lib.hid (airrepl_any l R w3 hl hR.1)
 have HB := Lib.hid hb
 clear hk hR hb
 go_wp2_with fail
 refine HR.out.mono ?_
 rintro e w4 ⟨rfl, hb4⟩
 have HB4 := Lib.hid hb4
 clear hb4
 go_wp2
 go_ret
 exact ⟨rfl, HB.out.trans (HB4.out.mono HB.out.size)⟩
theorem KeptA.row {w w' : World} {b k0 : Nat} {l : List UInt8} (h : KeptA w w' b k0) (hb : k0 ≠ b) (hr : ByteRow w k0 l) : ByteRow w' k0 l := hr.kept (h k0 (Nat.le_refl _) hb)
structure VRel (w : World) (b : Nat) (q : List UInt8) (k : Nat) (f : Bool) (wr : World) : Prop where
 ex : ∃ acc, BldA wr (b + 1) (b + 1 + 1) acc ∧ acc ++ unescF f (q.drop k) = unescP q ∧ acc.length ≤ k
 row : ByteRow wr (b + 1 + 1) q
 bel : Below b w wr
theorem tvalue_short (t : Tok) (w : World) (h : (t.kind ≠ 2 ∧ t.kind ≠ 3) ∨ t.text.length < 2) :
  Calls Tryz.prog 244 #[.agg #[.int .i64 t.kind, .string (ba t.text)]] w (StrB w (meanP t)) := by
 have HM := Lib.hid (show meanP t = t.text by unfold meanP; rw [if_pos h])
 by_cases e2 : t.kind ≠ 2 ∧ t.kind ≠ 3
 ·have g2 : (t.kind != 2) = true := by simpa using e2.1
  have g3 : (t.kind != 3) = true := by simpa using e2.2
  clear e2 h
  go_enter Tryz.func244, Tryz.ntmps244
  go_wp2
  go_ret
  exact str_fin (by rw [HM.out]) ((Below.refl _ _).alloc (Nat.le_refl _) _)
 have e1 : t.text.length < 2 := h.resolve_left e2
 have hsz : ((ba t.text).size : Int) < 2 := by rw [ba_size]; omega
 by_cases e3 : t.kind = 2
 ·have g2 : (t.kind != 2) = false := by simp [e3]
  clear e2 e1 e3 h
  go_enter Tryz.func244, Tryz.ntmps244
  go_wp2
  go_ret
  exact str_fin (by rw [HM.out]) ((Below.refl _ _).alloc (Nat.le_refl _) _)
 ·have g2 : (t.kind != 2) = true := by simpa using e3
  have e4 : t.kind = 3 := by
   by_cases h : t.kind = 3
   ·exact h
   ·exact absurd ⟨e3, h⟩ e2
  have g3 : (t.kind != 3) = false := by simp [e4]
  clear e2 e1 e3 e4 h
  go_enter Tryz.func244, Tryz.ntmps244
  go_wp2
  go_ret
  exact str_fin (by rw [HM.out]) ((Below.refl _ _).alloc (Nat.le_refl _) _)
set_option maxRecDepth 100000 in
theorem tvalue_long (t : Tok) (w : World) (hl : t.text.length ≤ 1000000000) (h : t.kind = 2 ∨ t.kind = 3) (h2 : 2 ≤ t.text.length) :
  Calls Tryz.prog 244 #[.agg #[.int .i64 t.kind, .string (ba t.text)]] w (StrB w (meanP t)) := by
 have HM := Lib.hid (show meanP t = unescP ((t.text.drop 1).take (t.text.length - 2)) by
  unfold meanP
  rw [if_neg (fun hh => by rcases hh with hh | hh; exact h.elim hh.1 hh.2; omega)])
 have HQ := Lib.hid (inner_eq t.text h2)
 obtain ⟨q, hq⟩ : ∃ q, (t.text.drop 1).take (t.text.length - 2) = q := ⟨_, rfl⟩
 have hqn : q.length ≤ 1000000000 := by rw [← hq, List.length_take, List.length_drop]; omega
 have hqs : (ba t.text).size - 1 - 1 = q.length := by rw [← hq, List.length_take, List.length_drop, ba_size]; omega
 rw [hq] at HQ HM
 clear hq
 have hsz : ¬ ((ba t.text).size : Int) < 2 := by rw [ba_size]; omega
 have hsz2 : (2 : Int) ≤ ((ba t.text).size : Int) := by omega
 have hsz3 : ((ba t.text).size : Int) ≤ 1000000000 := by rw [ba_size]; omega
 have g : (t.kind = 2 ∧ (t.kind != 2) = false) ∨ ((t.kind != 2) = true ∧ (t.kind != 3) = false) := by
  rcases h with h | h
  ·exact .inl ⟨h, by simp [h]⟩
  ·exact .inr ⟨by simp [h], by simp [h]⟩
 have hne0 : (t.kind != 2) = false ∨ ((t.kind != 2) = true ∧ (t.kind != 3) = false) := g.imp And.right id
 clear h h2 hl g
 have hbox := Lib.hid (bld_new (w.alloc (.cells #[.int .i64 t.kind, .string (ba t.text)] 94)))
 obtain ⟨s0, hs0⟩ : ∃ s, ba t.text = s := ⟨_, rfl⟩
 rw [hs0] at HQ hsz hsz2 hsz3 hqs
 rw [hs0]
 obtain ⟨n, hn⟩ : ∃ n, q.length = n := ⟨_, rfl⟩
 have HL := Lib.hid hn
 have HQS := Lib.hid (hqs.trans hn)
 rw [hn] at hqn
 have hcv := fun (W : World) (S : ByteArray) => run_bytes_of_string (P := Tryz.prog) W 9 62 5 S Tryz.underlying9 Tryz.underlying62 Tryz.underlying5
 have HROW := Lib.hid (fun (W : World) (cap m : Nat) (hm : q.length ≤ m) => ByteRow.of_string W q cap 5 m hm)
 clear hs0 hn hqs hbox
 rcases hne0 with g2 | ⟨g2, g3⟩
 all_goals
  go_enter Tryz.func244, Tryz.ntmps244
  go_wp2
  rw [HQ.out, HQS.out]
  obtain ⟨C, hC⟩ : ∃ C, grownCap ((w.alloc (.cells #[.int .i64 t.kind, .string s0] 94)).alloc (.cells #[.pointer none, .slice none 0 0] 64)) n 0 5 = C := ⟨_, rfl⟩
  have HCN := Lib.hid (show q.length ≤ (bytesRow (ba q) C).size by rw [bytesRow_size (ba q) C (by rw [← hC, ba_size, HL.out]; exact grownCap_ge _ _ _ _), ← hC, HL.out]; exact grownCap_ge _ _ _ _)
  rw [hC]
  clear hC
  go_loopw [5, 32] (fun f i wr => ∃ (k : Nat) (fl : Bool), k ≤ n ∧ i = .int .i64 (k : Int) ∧ f = .bool fl ∧ Hid (VRel w w.heap.size q k fl wr)) (fun _ i _ => n - (intOf i).toNat)
  case atStart =>
   refine ⟨0, false, Nat.zero_le _, rfl, rfl, Lib.hid ⟨⟨[], ?_, ?_, Nat.le_refl _⟩, ?_, ?_⟩⟩
   ·refine BldA.new ?_ (by omega) (by simp)
    have h1 := (MapKept.heap_alloc (w.alloc (.cells #[.int .i64 t.kind, .string s0] 94)) (.cells #[.pointer none, .slice none 0 0] 64)).1
    simp only [World.size_alloc] at h1
    exact (heap_alloc_old _ _ (by simp)).trans h1
   ·exact (unescF_eq q)
   ·have := HROW.out ((w.alloc (.cells #[.int .i64 t.kind, .string s0] 94)).alloc (.cells #[.pointer none, .slice none 0 0] 64)) C _ HCN.out
    simp only [World.size_alloc] at this
    exact this
   ·exact ((((Below.refl _ _).alloc (Nat.le_refl _) _).alloc (by simp) _).alloc (by simp; omega) _).drew
  case round =>
   obtain ⟨k, fl, hk, rfl, rfl, HR⟩ := hrel
   obtain ⟨⟨acc, hbld, heq, hal⟩, hrow, hbel⟩ := HR.out
   have hB := hbel.size
   have HBLD := Lib.hid hbld
   have HROWR := Lib.hid hrow
   have HBEL := Lib.hid hbel
   have HAK := Lib.hid hal
   have hacl : acc.length ≤ 1000000000 := by omega
   have HEQ0 := Lib.hid heq
   clear HR hbld hrow hbel hal heq
   by_cases hlt : k < n
   ·have hk2 : (k : Int) < (n : Int) := by omega
    have hk0 : (0 : Int) ≤ (k : Int) := by omega
    have hkl : k < q.length := by rw [HL.out]; omega
    have hcell := HROWR.out.cell hkl
    have heq := HEQ0.out
    rw [List.drop_eq_getElem_cons hkl] at heq
    have HEQ := Lib.hid heq
    clear heq
    obtain ⟨c, hc⟩ : ∃ c, q[k] = c := ⟨_, rfl⟩
    rw [hc] at hcell HEQ
    obtain ⟨x, hx⟩ : ∃ x : Int, (c.toNat : Int) = x := ⟨_, rfl⟩
    have HX := Lib.hid hx
    have hwr : ∀ (A B : Nat) (hb : BldA wr A B acc), acc.length + 1 ≤ 140737488355328 → Calls Tryz.prog 56 #[.pointer (some ⟨A, 0, none⟩), .int .u8 x] wr (WroteA wr A B (acc ++ [c]) .nilIface) := fun A B hb hl => by
     rw [← hx]
     exact write_byteA A B acc c wr hb hl
    have HWR := Lib.hid (hwr _ _ HBLD.out (by omega))
    rw [hx] at hcell
    clear hc hkl hx hwr
    cases fl
    ·by_cases e1 : x = 92
     ·have g1 : (x == 92) = true := by simpa using e1
      have HE := Lib.hid (show acc ++ unescF true (q.drop (k + 1)) = unescP q by
       have h := HEQ.out
       unfold unescF at h
       rw [if_pos (u8_int_eq.1 (by rw [HX.out]; exact e1))] at h
       exact h)
      clear e1
      go_wp2
      go_roundw
      case rel => exact ⟨k + 1, true, by omega, by go_num, rfl, Lib.hid ⟨⟨acc, HBLD.out, HE.out, by have := HAK.out; omega⟩, HROWR.out, HBEL.out⟩⟩
      case measure => simp [intOf] <;> omega
     have g1 : (x == 92) = false := by simpa using e1
     have HC := Lib.hid (show ¬ c = 92 from fun h => e1 (by rw [← HX.out, h]; rfl))
     clear e1
     by_cases e2 : x = 10 ∨ x = 13
     ·have HE := Lib.hid (show acc ++ unescF false (q.drop (k + 1)) = unescP q by
       have h := HEQ.out
       unfold unescF at h
       rw [if_neg HC.out, if_pos (e2.imp (fun h => u8_int_eq.1 (by rw [HX.out]; exact h)) (fun h => u8_int_eq.1 (by rw [HX.out]; exact h)))] at h
       exact h)
      have g4 : (x != 10) = false ∨ ((x != 10) = true ∧ (x != 13) = false) := by
       rcases e2 with h | h
       ·exact .inl (by simp [h])
       ·exact .inr ⟨by simp [h], by simp [h]⟩
      clear e2
      rcases g4 with g4 | ⟨g4, g5⟩
      all_goals
       go_wp2
       go_roundw
       case rel => exact ⟨k + 1, false, by omega, by go_num, rfl, Lib.hid ⟨⟨acc, HBLD.out, HE.out, by have := HAK.out; omega⟩, HROWR.out, HBEL.out⟩⟩
       case measure => simp [intOf] <;> omega
     have HE := Lib.hid (show acc ++ c :: unescF false (q.drop (k + 1)) = unescP q by
      have h := HEQ.out
      unfold unescF at h
      rw [if_neg HC.out, if_neg (fun h => e2 (h.imp (fun h => by rw [← HX.out, h]; rfl) (fun h => by rw [← HX.out, h]; rfl)))] at h
      exact h)
     have g4 : (x != 10) = true := by
      have : ¬ x = 10 := fun h => e2 (.inl h)
      simpa using this
     have g5 : (x != 13) = true := by
      have : ¬ x = 13 := fun h => e2 (.inr h)
      simpa using this
     clear e2
     go_wp2_with fail
     refine HWR.out.mono ?_
     rintro e w2 ⟨rfl, hA⟩
     have HA := Lib.hid hA
     clear hA
     go_wp2
     go_roundw
     case rel =>
      refine ⟨k + 1, false, by omega, by go_num, rfl, Lib.hid ⟨⟨_, HA.out.1, ?_, ?_⟩, HA.out.2.2.row (by omega) HROWR.out, HBEL.out.trans (HA.out.2.1.mono (by omega))⟩⟩
      ·have := HE.out
       rw [List.append_assoc]
       exact this
      ·have := HAK.out
       rw [List.length_append]
       show acc.length + 1 ≤ k + 1
       omega
     case measure => simp [intOf] <;> omega
    ·have HE := Lib.hid (show acc ++ c :: unescF false (q.drop (k + 1)) = unescP q by
      have h := HEQ.out
      unfold unescF at h
      exact h)
     go_wp2_with fail
     refine HWR.out.mono ?_
     rintro e w2 ⟨rfl, hA⟩
     have HA := Lib.hid hA
     clear hA
     go_wp2
     go_roundw
     case rel =>
      refine ⟨k + 1, false, by omega, by go_num, rfl, Lib.hid ⟨⟨_, HA.out.1, ?_, ?_⟩, HA.out.2.2.row (by omega) HROWR.out, HBEL.out.trans (HA.out.2.1.mono (by omega))⟩⟩
      ·have := HE.out
       rw [List.append_assoc]
       exact this
      ·have := HAK.out
       rw [List.length_append]
       show acc.length + 1 ≤ k + 1
       omega
     case measure => simp [intOf] <;> omega
   ·have hk2 : ¬ (k : Int) < (n : Int) := by omega
    have hacc : acc = unescP q := by
     have := HEQ0.out
     rw [List.drop_of_length_le (by rw [HL.out]; omega)] at this
     have h0 : unescF fl [] = [] := by unfold unescF; rfl
     rw [h0, List.append_nil] at this
     exact this
    have HACC := Lib.hid hacc
    clear hacc
    go_wp2_with fail
    refine (bld_string _ _ acc wr HBLD.out.bld (by have := HBLD.out.lt; omega)).mono ?_
    rintro e w2 ⟨rfl, hW⟩
    have HW := Lib.hid hW
    clear hW
    go_wp2
    go_ret
    exact str_fin (by rw [HACC.out, HM.out]) (HBEL.out.trans (HW.out.bel.mono (by omega)))
theorem tvalue_any (t : Tok) (w : World) (hl : t.text.length ≤ 1000000000) :
  Calls Tryz.prog 244 #[.agg #[.int .i64 t.kind, .string (ba t.text)]] w (StrB w (meanP t)) := by
 by_cases h : (t.kind ≠ 2 ∧ t.kind ≠ 3) ∨ t.text.length < 2
 ·exact tvalue_short t w h
 ·refine tvalue_long t w hl ?_ (by omega)
  by_cases h2 : t.kind = 2
  ·exact .inl h2
  ·by_cases h3 : t.kind = 3
   ·exact .inr h3
   ·exact absurd (.inl ⟨h2, h3⟩) h
structure BRel (w : World) (b : Nat) (acc : List UInt8) (wr : World) : Prop where
 bld : Bld wr b b acc
 bel : Below b w wr
theorem below_drewN {B : Nat} {a b : World} (h : Below B a b) (n : Nat) : Below B a (b.drewN n) := ⟨h.os, h.tape, h.output, h.size, h.block⟩
def unhexP : List UInt8 → Option (List UInt8)
 | [] => some []
 | [_] => none
 | x :: y :: r => match hexV x, hexV y with
  | some a, some b => (unhexP r).map (UInt8.ofNat (a * 16 + b) :: ·)
  | _, _ => none
def digV (c : UInt8) : Int := match hexV c with
 | some a => (a : Int)
 | none => -1
def lowF (c : UInt8) : UInt8 := if 65 ≤ c ∧ c ≤ 70 then c + 32 else c
theorem u8_all (p : UInt8 → Prop) (h : ∀ n : Fin 256, p (UInt8.ofNat n.val)) (c : UInt8) : p c := by
 have := h ⟨c.toNat, c.toNat_lt⟩
 simpa using this
theorem hexIdx (c : UInt8) : Lib.indexByte [48, 49, 50, 51, 52, 53, 54, 55, 56, 57, 97, 98, 99, 100, 101, 102] (lowF c) = digV c := u8_all (fun c => Lib.indexByte [48, 49, 50, 51, 52, 53, 54, 55, 56, 57, 97, 98, 99, 100, 101, 102] (lowF c) = digV c) (by decide +kernel) c
theorem digV_bd (c : UInt8) : -1 ≤ digV c ∧ digV c ≤ 15 := u8_all (fun c => -1 ≤ digV c ∧ digV c ≤ 15) (by decide +kernel) c
theorem digV_hex (c : UInt8) : hexV c = if digV c < 0 then none else some (digV c).toNat := by
 unfold digV
 cases h : hexV c with
 | none => rfl
 | some a =>
  show some a = if (a : Int) < 0 then none else some (a : Int).toNat
  rw [if_neg (by omega)]
  simp
theorem hindex_any (c : UInt8) (w : World) : Calls Tryz.prog 128 #[.string ⟨#[48, 49, 50, 51, 52, 53, 54, 55, 56, 57, 97, 98, 99, 100, 101, 102]⟩, .int .u8 ((lowF c).toNat : Int)] w fun e w' => e = .returned (.int .i64 (digV c)) ∧ w' = w := by
 refine (Tryz.strings_IndexByte _ ((lowF c).toNat : Int) w).mono ?_
 rintro e w' ⟨rfl, rfl⟩
 rw [u8_back, ← hexIdx]
 exact ⟨rfl, rfl⟩
theorem lowF_yes {c : UInt8} {x : Int} (hx : (c.toNat : Int) = x) (h : 65 ≤ x ∧ x ≤ 70) : ((lowF c).toNat : Int) = x + 32 := by
 unfold lowF
 have h1 : 65 ≤ c ∧ c ≤ 70 := by
  rw [UInt8.le_iff_toNat_le, UInt8.le_iff_toNat_le]
  show (65 : Nat) ≤ _ ∧ _ ≤ (70 : Nat)
  omega
 rw [if_pos h1, UInt8.toNat_add]
 show (((c.toNat + 32) % 256 : Nat) : Int) = _
 omega
theorem lowF_no {c : UInt8} {x : Int} (hx : (c.toNat : Int) = x) (h : ¬ (65 ≤ x ∧ x ≤ 70)) : ((lowF c).toNat : Int) = x := by
 unfold lowF
 have h1 : ¬ (65 ≤ c ∧ c ≤ 70) := by
  rw [UInt8.le_iff_toNat_le, UInt8.le_iff_toNat_le]
  show ¬ ((65 : Nat) ≤ _ ∧ _ ≤ (70 : Nat))
  omega
 rw [if_neg h1]
 exact hx
set_option maxRecDepth 100000 in
theorem digit_any (c : UInt8) (w : World) : Calls Tryz.prog 251 #[.int .u8 (c.toNat : Int)] w fun e w' => e = .returned (.int .i64 (digV c)) ∧ w' = w := by
 have hix := fun W => hindex_any c W
 obtain ⟨x, hx⟩ : ∃ x : Int, (c.toNat : Int) = x := ⟨_, rfl⟩
 have HY := Lib.hid (lowF_yes hx)
 have HN := Lib.hid (lowF_no hx)
 have hx0 : 0 ≤ x := by omega
 have hx1 : x ≤ 255 := by have := c.toNat_lt; omega
 rw [hx]
 clear hx
 by_cases e1 : 65 ≤ x
 ·have g1 : decide (65 ≤ x) = true := decide_eq_true e1
  by_cases e2 : x ≤ 70
  ·have g2 : decide (x ≤ 70) = true := decide_eq_true e2
   rw [HY.out ⟨e1, e2⟩] at hix
   have HIX := Lib.hid hix
   clear hix
   go_enter Tryz.func251, Tryz.ntmps251
   go_wp2_with fail
   refine (HIX.out _).mono ?_
   rintro e w' ⟨rfl, rfl⟩
   go_wp2
   go_ret
   exact ⟨rfl, rfl⟩
  ·have g2 : decide (x ≤ 70) = false := decide_eq_false e2
   rw [HN.out (fun h => e2 h.2)] at hix
   have HIX := Lib.hid hix
   clear hix
   go_enter Tryz.func251, Tryz.ntmps251
   go_wp2_with fail
   refine (HIX.out _).mono ?_
   rintro e w' ⟨rfl, rfl⟩
   go_wp2
   go_ret
   exact ⟨rfl, rfl⟩
 ·have g1 : decide (65 ≤ x) = false := decide_eq_false e1
  rw [HN.out (fun h => e1 h.1)] at hix
  have HIX := Lib.hid hix
  clear hix
  go_enter Tryz.func251, Tryz.ntmps251
  go_wp2_with fail
  refine (HIX.out _).mono ?_
  rintro e w' ⟨rfl, rfl⟩
  go_wp2
  go_ret
  exact ⟨rfl, rfl⟩
theorem bits16 {a b : Int} (h1 : 0 ≤ a) (h2 : a ≤ 15) (h3 : 0 ≤ b) (h4 : b ≤ 15) : bits BinOp.or IntKind.i64 (a * 16) b % 256 = a * 16 + b := by
 have h : ∀ x y : Fin 16, bits BinOp.or IntKind.i64 ((x.val : Int) * 16) (y.val : Int) % 256 = (x.val : Int) * 16 + (y.val : Int) := by decide +kernel
 have := h ⟨a.toNat, by omega⟩ ⟨b.toNat, by omega⟩
 simp only [Int.toNat_of_nonneg h1, Int.toNat_of_nonneg h3] at this
 exact this
theorem make_bytes {m : Nat} (hm : m < 1099511627776) (W : World) : (Instr.makeSlice 62 (.int .i64 (m : Int)) (.int .i64 (m : Int))).run Tryz.prog W = .ok (.slice (some ⟨W.heap.size, 0, none⟩) m m) (W.alloc (.cells (madeCells #[.int .u8 0] m) 5)) := by
 obtain ⟨i0, hi, hz0, hz1, hz2⟩ := info_parts info_u8
 have := run_make (P := Tryz.prog) W 62 5 i0 (.int .u8 0) Tryz.underlying62 hi hz0 .i64 .i64 (m : Int) (m : Int) (by omega) (by omega) (by rw [hz2]; omega) (by omega)
 rw [this, hz1, Nat.mul_one]
 rfl
theorem ByteRow.made (W : World) (m : Nat) (T : TypeId) : ByteRow (W.alloc (.cells (madeCells #[.int .u8 0] m) T)) W.heap.size (List.replicate m 0) := by
 refine ⟨madeCells #[.int .u8 0] m, T, (0, 0), ?_, fun j hj => ?_, .inr rfl⟩
 ·show (W.heap.push _)[W.heap.size]? = _
  simp
 ·rw [List.length_replicate] at hj
  rw [List.getElem_replicate]
  simp [madeCells, hj, Nat.mod_one]
def UnhexPost (w : World) (l : List UInt8) (e : Ending) (w' : World) : Prop := e = .returned (.tuple #[.string (ba ((unhexP l).getD [])), .bool (unhexP l).isSome]) ∧ Below w.heap.size w w'
theorem unhex_odd : ∀ l : List UInt8, l.length % 2 = 1 → unhexP l = none
 | [], h => by simp at h
 | [_], _ => rfl
 | x :: y :: r, h => by
  unfold unhexP
  rw [unhex_odd r (by simp at h; omega)]
  split <;> rfl
theorem unhex_len : ∀ (l a : List UInt8), unhexP l = some a → 2 * a.length = l.length
 | [], a, h => by injection h with h; subst h; rfl
 | [_], a, h => by cases h
 | x :: y :: r, a, h => by
  unfold unhexP at h
  split at h
  ·obtain ⟨b, hb, rfl⟩ := Option.map_eq_some_iff.1 h
   have := unhex_len r b hb
   simp only [List.length_cons]
   omega
  ·cases h
theorem unhex_cons {l : List UInt8} {k : Nat} (hk : 2 * k + 1 < l.length) : unhexP (l.drop (2 * k)) = match hexV l[2 * k], hexV l[2 * k + 1] with
  | some a, some b => (unhexP (l.drop (2 * (k + 1)))).map (UInt8.ofNat (a * 16 + b) :: ·)
  | _, _ => none := by
 rw [List.drop_eq_getElem_cons (by omega : 2 * k < l.length), List.drop_eq_getElem_cons hk]
 conv => lhs; unfold unhexP
 rw [show 2 * (k + 1) = 2 * k + 1 + 1 by omega]
def UhRel (w : World) (l : List UInt8) (m k : Nat) (wr : World) : Prop :=
 ∃ acc, acc.length = k ∧ ByteRow wr w.heap.size (acc ++ List.replicate (m - k) 0) ∧ unhexP l = (unhexP (l.drop (2 * k))).map (acc ++ ·) ∧ Below w.heap.size w wr
set_option maxRecDepth 100000 in
theorem unhex_any (l : List UInt8) (w : World) (hl : l.length ≤ 1000000000) :
  Calls Tryz.prog 206 #[.string (ba l)] w (UnhexPost w l) := by
 obtain ⟨n, hn⟩ : ∃ n, l.length = n := ⟨_, rfl⟩
 have HL := Lib.hid hn
 obtain ⟨s, hs⟩ : ∃ s, ba l = s := ⟨_, rfl⟩
 have HS := Lib.hid hs
 have HZ := Lib.hid (show s.size = n by rw [← hs, ba_size, hn])
 have hsz : (s.size : Int) = n := by rw [HZ.out]
 rw [hs]
 rw [hn] at hl
 clear hs hn
 by_cases hodd : n % 2 = 1
 ·have HV := Lib.hid (unhex_odd l (by rw [HL.out]; exact hodd))
  have ho : (n : Int) % 2 = 1 := by omega
  clear hodd
  go_enter Tryz.func206, Tryz.ntmps206
  go_wp2
  go_ret2
  unfold UnhexPost
  rw [HV.out]
  exact ⟨rfl, Below.refl _ _⟩
 obtain ⟨m, hm⟩ : ∃ m, n = 2 * m := ⟨n / 2, by omega⟩
 have hml : m ≤ 1000000000 := by omega
 have ho : (n : Int) % 2 = 0 := by omega
 have hq : (n : Int) / 2 = (m : Int) := by omega
 have HNM := Lib.hid hm
 clear hodd
 have hmk := make_bytes (m := m) (by omega)
 clear hm
 have HROW := Lib.hid (ByteRow.made w m 5)
 go_enter Tryz.func206, Tryz.ntmps206
 go_wp2
 clear ho hq hsz
 go_loopw [19] (fun i wr => ∃ k : Nat, k ≤ m ∧ i = .int .i64 (k : Int) ∧ Hid (UhRel w l m k wr)) (fun i _ => m - (intOf i).toNat)
 case atStart => exact ⟨0, Nat.zero_le _, rfl, Lib.hid ⟨[], rfl, HROW.out, by simp, (Below.refl _ _).alloc (Nat.le_refl _) _⟩⟩
 case round =>
  obtain ⟨k, hk, rfl, HR⟩ := hrel
  obtain ⟨acc, hal, hrow, heq, hbel⟩ := HR.out
  have hsz2 := hbel.size
  have HAL := Lib.hid hal
  have HRW := Lib.hid hrow
  have HEQ0 := Lib.hid heq
  have HBE := Lib.hid hbel
  clear HR hal hrow heq hbel hmk
  by_cases hlt : k < m
  ·have hk2 : (k : Int) < (m : Int) := by omega
   have hk0 : (0 : Int) ≤ (k : Int) := by omega
   have hnm := HNM.out
   have hkl : 2 * k < l.length := by rw [HL.out]; omega
   have hkl2 : 2 * k + 1 < l.length := by rw [HL.out]; omega
   have hge1 : s[2 * k]'(by rw [HZ.out]; omega) = l[2 * k] := by
    have h := HS.out
    subst h
    rfl
   have hge2 : s[2 * k + 1]'(by rw [HZ.out]; omega) = l[2 * k + 1] := by
    have h := HS.out
    subst h
    rfl
   have HUC := Lib.hid (unhex_cons hkl2)
   obtain ⟨c, hc⟩ : ∃ c, l[2 * k] = c := ⟨_, rfl⟩
   obtain ⟨d, hd⟩ : ∃ d, l[2 * k + 1] = d := ⟨_, rfl⟩
   rw [hc] at hge1 HUC
   rw [hd] at hge2 HUC
   obtain ⟨x, hx⟩ : ∃ x : Int, (c.toNat : Int) = x := ⟨_, rfl⟩
   obtain ⟨y, hy⟩ : ∃ x : Int, (d.toNat : Int) = x := ⟨_, rfl⟩
   have hD1 := digit_any c
   have hD2 := digit_any d
   rw [hx] at hD1
   rw [hy] at hD2
   have hgi1 : ∀ h : 2 * k < s.size, ((s[2 * k]'h).toNat : Int) = x := fun h => by rw [hge1]; exact hx
   have hgi2 : ∀ h : 2 * k + 1 < s.size, ((s[2 * k + 1]'h).toNat : Int) = y := fun h => by rw [hge2]; exact hy
   have HB1 := digV_bd c
   have HB2 := digV_bd d
   have HV1 := Lib.hid (digV_hex c)
   have HV2 := Lib.hid (digV_hex d)
   obtain ⟨v1, hv1⟩ : ∃ v, digV c = v := ⟨_, rfl⟩
   obtain ⟨v2, hv2⟩ : ∃ v, digV d = v := ⟨_, rfl⟩
   simp only [hv1] at hD1 HB1 HV1
   simp only [hv2] at hD2 HB2 HV2
   have HD1 := Lib.hid hD1
   have HD2 := Lib.hid hD2
   clear hc hd hkl hkl2 hx hy hge1 hge2 hv1 hv2 hD1 hD2
   have hs1 : 2 * (k : Int) < (s.size : Int) := by rw [HZ.out, hnm]; omega
   have hs2 : 2 * (k : Int) + 1 < (s.size : Int) := by rw [HZ.out, hnm]; omega
   clear hnm
   have hs3 : (0 : Int) ≤ 2 * (k : Int) := by omega
   have hs4 : (0 : Int) ≤ 2 * (k : Int) + 1 := by omega
   have hw1 : IntKind.i64.wrap (2 * (k : Int)) = 2 * (k : Int) := IntWalk.i64_in _ (by omega)
   have hw2 : IntKind.i64.wrap (2 * (k : Int) + 1) = 2 * (k : Int) + 1 := IntWalk.i64_in _ (by omega)
   have ht1 : (2 * (k : Int)).toNat = 2 * k := by omega
   have ht2 : (2 * (k : Int) + 1).toNat = 2 * k + 1 := by omega
   go_wp2
   refine wp_region_quiet_lit (by kernel_rfl) (by kernel_rfl) ?_
   repeat (go_big_quiet_step (fail))
   go_big_quiet_step (exact Calls.quiet_of_same (HD1.out _))
   repeat (go_big_quiet_step (fail))
   go_big_quiet_step (exact Calls.quiet_of_same (HD2.out _))
   repeat (go_big_quiet_step (fail))
   refine wpQuiet_nil ?_
   intro _ hw'
   obtain ⟨nq, hw''⟩ := hw'
   subst hw''
   clear hs1 hs2 hs3 hs4 hw1 hw2 ht1 ht2 hgi1 hgi2
   by_cases e1 : v1 < 0
   ·have g1 : decide (v1 < 0) = true := decide_eq_true e1
    have HV := Lib.hid (show unhexP l = none by
     rw [HEQ0.out, HUC.out, HV1.out, if_pos e1]
     rfl)
    clear e1
    go_wp2
    go_ret2
    unfold UnhexPost
    rw [HV.out]
    exact ⟨rfl, below_drewN HBE.out nq⟩
   have g1 : decide (v1 < 0) = false := decide_eq_false e1
   by_cases e2 : v2 < 0
   ·have g2 : decide (v2 < 0) = true := decide_eq_true e2
    have HV := Lib.hid (show unhexP l = none by
     rw [HEQ0.out, HUC.out, HV1.out, HV2.out, if_neg e1, if_pos e2]
     rfl)
    clear e1 e2
    go_wp2
    go_ret2
    unfold UnhexPost
    rw [HV.out]
    exact ⟨rfl, below_drewN HBE.out nq⟩
   have g2 : decide (v2 < 0) = false := decide_eq_false e2
   have hv1 : 0 ≤ v1 := by omega
   have hv2 : 0 ≤ v2 := by omega
   have hv3 : v1 ≤ 15 := HB1.2
   have hv4 : v2 ≤ 15 := HB2.2
   obtain ⟨z, hz⟩ : ∃ z : UInt8, UInt8.ofNat (v1.toNat * 16 + v2.toNat) = z := ⟨_, rfl⟩
   have HEQ := Lib.hid (show unhexP l = (unhexP (l.drop (2 * (k + 1)))).map ((acc ++ [z]) ++ ·) by
    rw [HEQ0.out, HUC.out, HV1.out, HV2.out, if_neg e1, if_neg e2, ← hz]
    show Option.map _ (Option.map _ _) = _
    rw [Option.map_map]
    congr 1
    funext q
    simp)
   have HZZ := Lib.hid (show (z.toNat : Int) = v1 * 16 + v2 by
    rw [← hz, UInt8.toNat_ofNat']
    omega)
   have hkr : k < (acc ++ List.replicate (m - k) 0).length := by rw [List.length_append, HAL.out, List.length_replicate]; omega
   have hcell := HRW.out.cell hkr
   have hfree := HRW.out.free hkr
   have HSET := Lib.hid (HRW.out.set hkr z)
   clear e1 e2 hz HB1 HB2
   have HBI := Lib.hid (bits16 hv1 hv3 hv2 hv4)
   go_wp2
   go_roundw
   case rel =>
    rw [HBI.out]
    refine ⟨k + 1, by omega, by go_num, Lib.hid ⟨acc ++ [z], by rw [List.length_append, HAL.out]; rfl, ?_, HEQ.out, (below_drewN HBE.out nq).setCell (Nat.le_refl _) _⟩⟩
    have h1 := HSET.out
    rw [HZZ.out] at h1
    have h2 : (acc ++ List.replicate (m - k) 0).set k z = acc ++ [z] ++ List.replicate (m - (k + 1)) 0 := by
     rw [List.set_append_right _ _ (by rw [HAL.out]; exact Nat.le_refl _), HAL.out, show k - k = 0 by omega, show m - k = (m - (k + 1)) + 1 by omega, List.replicate_succ, List.set_cons_zero, List.append_assoc]
     rfl
    rw [h2] at h1
    exact h1
   case measure => simp [intOf] <;> omega
  ·obtain rfl : k = m := by omega
   have hun : unhexP l = some acc := by
    rw [HEQ0.out, List.drop_of_length_le (by rw [HL.out, HNM.out]; exact Nat.le_refl _)]
    show some (acc ++ []) = _
    rw [List.append_nil]
   have hrow : ByteRow wr w.heap.size acc := by
    have := HRW.out
    rw [show k - k = 0 by omega] at this
    simpa using this
   have hback := run_convert_bytes_back (P := Tryz.prog) wr 62 9 5 ⟨w.heap.size, 0, none⟩ k acc Tryz.underlying62 Tryz.underlying5 Tryz.underlying9 hrow.cells
   rw [HAL.out] at hback
   have HUN := Lib.hid hun
   clear hrow hun
   go_wp2
   go_ret2
   unfold UnhexPost
   rw [HUN.out]
   exact ⟨rfl, HBE.out⟩
end Go.Proofs.YthidbmeaccpjdaaGreatDoor
