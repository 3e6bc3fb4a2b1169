/- Layer 9: Replace of a new Replacer of bytes: built once, then asked (printed by gen_hdr.py). -/
import Derived.Test.YtnpgnohlcphfnaaGreatDoorHdR3
import Derived.Test.YtnpgnohlcphfnaaGreatDoorM10
namespace Go.Proofs.YtnpgnohlcphfnaaGreatDoor
open Go.RowKit
set_option linter.unusedVariables false

def AirRepl (B : Nat) (w : World) (R : Nat) : Prop := RowV w R 256 (airF true true) ∧ B ≤ R
theorem AirRepl.kept {B : Nat} {w w' : World} {R : Nat} (h : AirRepl B w R) (hb : ∀ k, B ≤ k → k < w.heap.size → w'.heap[k]? = w.heap[k]?) : AirRepl B w' R := ⟨h.1.kept (hb R h.2 h.1.lt), h.2⟩
/-- What buildOnce leaves behind. -/
structure OnceA (w : World) (b : Nat) (w2 : World) : Prop where
  ex : ∃ R, RowV w2 b 5 (repF 0 1 (.iface 186 (.pointer (some ⟨R, 0, none⟩))) (.slice none 0 0)) ∧ AirRepl w.heap.size w2 R
  bel : ∀ k, k < w.heap.size → k ≠ b → w2.heap[k]? = w.heap[k]?
  rest : w2.os = w.os ∧ w2.tape = w.tape ∧ w2.output = w.output ∧ w.heap.size ≤ w2.heap.size
set_option maxRecDepth 100000 in
set_option maxHeartbeats 1000000 in
theorem airOnce_any (b g c : Nat) (w : World) (hrow : RowV w b 5 (repF 0 1 .nilIface (.slice (some ⟨g, 0, none⟩) 4 c))) (hg : g < w.heap.size) (hs : ∀ j u, (sv airStrs)[j]? = some u → w.cell? ((⟨g, 0, none⟩ : Addr).add j) = some u) :
    Calls Tryz.prog 86 #[.pointer (some ⟨b, 0, none⟩)] w fun e w2 => e = .returned (.tuple #[]) ∧ OnceA w b w2 := by
  have HB := Lib.hid (airbuild_any b g c w (hrow.cell (j := 4) (by omega)) hg hs)
  have HROW := Lib.hid (fun (w1 : World) (hb : Below w.heap.size w w1) => hrow.kept (hb.block b hrow.lt))
  have hlt := hrow.lt
  clear hrow hs
  go_enter Tryz.func86, Tryz.ntmps86
  go_wp2_with fail
  refine HB.out.mono ?_
  rintro e w1 ⟨R, rfl, hRow, hRlow, hb⟩
  have hR : AirRepl w.heap.size w1 R := ⟨hRow, hRlow⟩
  clear hRow hRlow
  have HR := Lib.hid hR
  have HBE := Lib.hid hb
  have HRW := Lib.hid (HROW.out w1 hb)
  have r3 : w1.cell? ⟨b, 3, none⟩ = some .nilIface := HRW.out.cell (j := 3) (by omega)
  have r4 : w1.cell? ⟨b, 4, none⟩ = some (.slice (some ⟨g, 0, none⟩) 4 c) := HRW.out.cell (j := 4) (by omega)
  have z3 := HRW.out.free 3
  have z4 := HRW.out.free 4
  clear hR hb
  go_wp2
  go_end0
  refine ⟨rfl, ⟨R, ?_, ?_⟩, fun k hk hne => ?_, HBE.out.os, HBE.out.tape, HBE.out.output, ?_⟩
  · refine ((HRW.out.set (k := 3) (by omega) _).set (k := 4) (by omega) _).congr fun j hj => ?_
    match j, hj with
    | 0, _ => rfl
    | 1, _ => rfl
    | 2, _ => rfl
    | 3, _ => rfl
    | 4, _ => rfl
  · refine HR.out.kept fun k hk _ => ?_
    rw [heap_setCell_other _ _ _ _ (by show k ≠ b; omega), heap_setCell_other _ _ _ _ (by show k ≠ b; omega)]
  · rw [heap_setCell_other _ _ _ _ hne, heap_setCell_other _ _ _ _ hne]
    exact HBE.out.block k hk
  · rw [World.size_setCell, World.size_setCell]
    exact HBE.out.size
set_option maxRecDepth 100000 in
set_option maxHeartbeats 1000000 in
theorem airreplace_any (l : List UInt8) (b g c : Nat) (w0 w : World) (hl : l.length ≤ 1000000000) (hN : AirRepAt w0 w b g c) :
    Calls Tryz.prog 58 #[.pointer (some ⟨b, 0, none⟩), .string (ba l)] w fun e w' => e = .returned (.string (ba (airP l))) ∧ Below w0.heap.size w0 w' := by
  have h0 : w.cell? ⟨b, 0, none⟩ = some (.int .u32 0) := hN.row.cell (j := 0) (by omega)
  have h1 : w.cell? ⟨b, 1, none⟩ = some (.int .i32 0) := hN.row.cell (j := 1) (by omega)
  have f0 := hN.row.free 0
  have f1 := hN.row.free 1
  have hblt := hN.row.lt
  have hW : RowV (w.setCell ⟨b, 1, none⟩ (.int .i32 1)) b 5 (repF 0 1 .nilIface (.slice (some ⟨g, 0, none⟩) 4 c)) := (hN.row.set (k := 1) (by omega) _).congr fun j hj => by
    match j, hj with
    | 0, _ => rfl
    | 1, _ => rfl
    | 2, _ => rfl
    | 3, _ => rfl
    | 4, _ => rfl
  have HBO := Lib.hid (airOnce_any b g c (w.setCell ⟨b, 1, none⟩ (.int .i32 1)) hW (by rw [World.size_setCell]; exact hN.glt) fun j u hu => by
    have h := hN.strs j u hu
    rw [add_base] at h ⊢
    rw [World.cell?_setCell_other _ _ _ _ (by intro e; injection e with e; exact hN.ne e.symm)]
    exact h)
  have HDO := Lib.hid (onceDo_any b w (OnceA (w.setCell ⟨b, 1, none⟩ (.int .i32 1)) b) h0 h1 f0 f1 HBO.out fun w2 hk => by
    obtain ⟨R, hr, _⟩ := hk.ex
    exact ⟨hr.cell (j := 0) (by omega), hr.cell (j := 1) (by omega), hr.free 0, hr.free 1⟩)
  have HAFT := Lib.hid (show ∀ w2, OnceA (w.setCell ⟨b, 1, none⟩ (.int .i32 1)) b w2 → ∃ R, (onceW b w2).cell? ⟨b, 3, none⟩ = some (.iface 186 (.pointer (some ⟨R, 0, none⟩))) ∧ AirRepl w.heap.size (onceW b w2) R ∧ Below w0.heap.size w0 (onceW b w2) from fun w2 hk => by
    obtain ⟨R, hr, hR⟩ := hk.ex
    rw [World.size_setCell] at hR
    obtain ⟨q1, q2, q3, q4⟩ := hk.rest
    rw [World.size_setCell] at q4
    refine ⟨R, ?_, hR.kept fun k h5 h6 => ?_, hN.bel.trans ⟨q1, q2, q3, ?_, fun k h5 => ?_⟩⟩
    · have := ((hr.drew.set (k := 0) (by omega) (.int .u32 1)).set (k := 1) (by omega) (.int .i32 0)).cell (j := 3) (by omega)
      exact this
    · unfold onceW
      rw [heap_setCell_other _ _ _ _ (by show k ≠ b; omega), heap_setCell_other _ _ _ _ (by show k ≠ b; omega)]
      rfl
    · unfold onceW
      rw [World.size_setCell, World.size_setCell]
      exact q4
    · have h6 := hN.low
      have h7 := hN.bel.size
      unfold onceW
      rw [heap_setCell_other _ _ _ _ (by show k ≠ b; omega), heap_setCell_other _ _ _ _ (by show k ≠ b; omega)]
      refine (hk.bel k (by rw [World.size_setCell]; omega) (by omega)).trans ?_
      exact heap_setCell_other _ _ _ _ (by show k ≠ b; omega))
  have HSZ := Lib.hid hN.bel.size
  clear hW HBO hN h0 h1 f0 f1
  go_enter Tryz.func58, Tryz.ntmps58
  go_wp2_with fail
  refine HDO.out.mono ?_
  rintro e w' ⟨rfl, w2, hk, rfl⟩
  obtain ⟨R, c3, hR, hb⟩ := HAFT.out w2 hk
  generalize onceW b w2 = w3 at c3 hR hb ⊢
  have HR := Lib.hid (airrepl_any l R w3 hl hR.1)
  have HB := Lib.hid hb
  clear hk hR hb
  go_wp2_with fail
  refine HR.out.mono ?_
  rintro e w4 ⟨rfl, hb4⟩
  have HB4 := Lib.hid hb4
  clear hb4
  go_wp2
  go_ret
  exact ⟨rfl, HB.out.trans (HB4.out.mono HB.out.size)⟩
end Go.Proofs.YtnpgnohlcphfnaaGreatDoor
