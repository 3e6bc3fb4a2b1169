/- Layer 9: the build of a Replacer of bytes (printed by gen_hdr.py). -/
import Derived.Test.YtnpgnohlcphfnaaGreatDoorHdR1
import Derived.Test.YtnpgnohlcphfnaaGreatDoorM09
namespace Go.Proofs.YtnpgnohlcphfnaaGreatDoor
open Go.RowKit
set_option linter.unusedVariables false

/-- The zero cells of a byteReplacer. -/
noncomputable def zAir : Array Value := ((Tryz.prog.info? 185).bind (·.zero)).elim #[] (·.cells)
theorem zAir_size : zAir.size = 256 := by kernel_rfl
def isZero8 : Value → Bool
  | .int .u8 0 => true
  | _ => false
theorem isZero8_eq {v : Value} (h : isZero8 v = true) : v = .int .u8 0 := by
  unfold isZero8 at h
  split at h
  · rfl
  · cases h
set_option maxRecDepth 100000 in
theorem zAir_all : zAir.toList.all isZero8 = true := by kernel_rfl
theorem zAir_at {i : Nat} (h : i < 256) : zAir[i]? = some (.int .u8 0) := by
  have hs : i < zAir.size := by rw [zAir_size]; exact h
  rw [Array.getElem?_eq_getElem hs]
  have := List.all_eq_true.1 zAir_all zAir[i] (by simp)
  rw [isZero8_eq this]
theorem zAir_agg : ((Tryz.prog.info? 185).bind (·.zero)).elim false (fun z => match z with | .agg _ => true | _ => false) = true := by kernel_rfl
theorem zAir_some : ((Tryz.prog.info? 185).bind (·.zero)).isSome = true := by kernel_rfl
theorem size_air : (Tryz.prog.info? 185).map (·.size) = some 256 := by kernel_rfl
set_option maxRecDepth 100000 in
theorem zAir_one : zAir.all (·.oneCell') = true := by
  rw [Array.all_eq_true]
  intro i hi
  have h := zAir_at (i := i) (by rw [zAir_size] at hi; exact hi)
  rw [Array.getElem?_eq_getElem hi] at h
  injection h with h
  rw [h]
  rfl
set_option maxRecDepth 100000 in
theorem zAir_val (w : World) : (zeroValue 185).run Tryz.prog w = .ok (.agg zAir) w := by
  have h0 := zAir_some
  cases hi : Tryz.prog.info? 185 with
  | none => rw [hi] at h0; cases h0
  | some it =>
    rw [hi] at h0
    cases hz : it.zero with
    | none => simp [hz] at h0
    | some z =>
      have hzz : z = .agg zAir := by
        have h1 := zAir_agg
        simp only [hi, Option.bind_some, hz, Option.elim_some] at h1
        cases z with
        | agg c => simp [zAir, hi, hz, Value.cells]
        | _ => cases h1
      simp [zeroValue, typeInfo, hi, hz, hzz]
set_option maxRecDepth 100000 in
theorem built_air : Tryz.prog.built 185 [] = some zAir := by
  have h0 := zAir_some
  unfold Program.built
  cases hi : Tryz.prog.info? 185 with
  | none => rw [hi] at h0; cases h0
  | some it =>
    rw [hi] at h0
    cases hz : it.zero with
    | none => simp [hz] at h0
    | some z =>
      have hu : Tryz.prog.underlying 185 = some _ := Tryz.underlying185
      have h5 : (Tryz.prog.info? 5).isSome = true := by kernel_rfl
      cases h6 : Tryz.prog.info? 5 with
      | none => rw [h6] at h5; cases h5
      | some i6 => simp [hu, hz, Instr.fill, zAir, hi, h6]
theorem build_air (w : World) : (Instr.build 185 #[]).run Tryz.prog w = .ok (.agg zAir) w := run_build w _ _ _ built_air
theorem store_air (w : World) : (storeCells ⟨w.heap.size, 0, none⟩ zAir.toList 0).run Tryz.prog (w.alloc (.cells zAir 185)) = .ok () (w.alloc (.cells zAir 185)) :=
  run_storeCells_new w _ _ _ (by rw [size_air, zAir_size]) rfl zAir_one
/-- The table while it is filled, and filled. -/
def fillF (k j : Nat) : Value := .int .u8 (if j < k then (j : Int) else 0)
def airN (a b : Bool) (j : Nat) : Nat := if j = 10 ∧ a = true then 32 else if j = 13 ∧ b = true then 32 else j
def airF (a b : Bool) (j : Nat) : Value := .int .u8 (airN a b j : Nat)
structure ASt (w : World) (f : Nat → Value) (wr : World) : Prop where
  row : RowV wr w.heap.size 256 f
  bel : Below w.heap.size w wr
theorem ASt.start (w : World) : ASt w (fillF 0) (w.alloc (.cells zAir 185)) := ⟨RowV.made _ _ _ fun j hj => by rw [zAir_at hj]; rfl, (Below.refl _ _).alloc (Nat.le_refl _) _⟩
theorem ASt.step {w wr : World} {k : Nat} (h : ASt w (fillF k) wr) (hk : k < 256) : ASt w (fillF (k + 1)) (wr.setCell ⟨w.heap.size, k, none⟩ (.int .u8 (k : Int))) := by
  refine ⟨(h.row.set hk _).congr fun j hj => ?_, h.bel.setCell (Nat.le_refl _) _⟩
  show (if j = k then _ else fillF k j) = _
  unfold fillF
  by_cases e : j = k
  · subst e
    rw [if_pos rfl, if_pos (by omega)]
  · rw [if_neg e]
    congr 1
    by_cases e2 : j < k
    · rw [if_pos e2, if_pos (by omega)]
    · rw [if_neg e2, if_neg (by omega)]
theorem ASt.full {w wr : World} (h : ASt w (fillF 256) wr) : ASt w (airF false false) wr := ⟨h.row.congr fun j hj => by
  unfold fillF airF airN
  rw [if_pos hj, if_neg (by simp), if_neg (by simp)], h.bel⟩
theorem ASt.lf {w wr : World} (h : ASt w (airF false false) wr) : ASt w (airF true false) (wr.setCell ⟨w.heap.size, 10, none⟩ (.int .u8 32)) := by
  refine ⟨(h.row.set (k := 10) (by omega) _).congr fun j hj => ?_, h.bel.setCell (Nat.le_refl _) _⟩
  show (if j = 10 then _ else airF false false j) = _
  unfold airF airN
  by_cases e : j = 10
  · subst e; rfl
  · rw [if_neg e]
    simp [e]
theorem ASt.cr {w wr : World} (h : ASt w (airF true false) wr) : ASt w (airF true true) (wr.setCell ⟨w.heap.size, 13, none⟩ (.int .u8 32)) := by
  refine ⟨(h.row.set (k := 13) (by omega) _).congr fun j hj => ?_, h.bel.setCell (Nat.le_refl _) _⟩
  show (if j = 13 then _ else airF true false j) = _
  unfold airF airN
  by_cases e : j = 13
  · subst e; rfl
  · rw [if_neg e]
    simp [e]
def AirBuilt (w : World) (e : Ending) (w' : World) : Prop := ∃ R, e = .returned (.iface 186 (.pointer (some ⟨R, 0, none⟩))) ∧ RowV w' R 256 (airF true true) ∧ w.heap.size ≤ R ∧ Below w.heap.size w w'
theorem air_cells {w : World} {g : Nat} (h : ∀ j u, (sv airStrs)[j]? = some u → w.cell? ((⟨g, 0, none⟩ : Addr).add j) = some u) :
    w.cell? ⟨g, 0, none⟩ = some (.string ⟨#[13]⟩) ∧ w.cell? ⟨g, 1, none⟩ = some (.string ⟨#[32]⟩) ∧ w.cell? ⟨g, 2, none⟩ = some (.string ⟨#[10]⟩) ∧ w.cell? ⟨g, 3, none⟩ = some (.string ⟨#[32]⟩) := by
  have h0 := h 0 _ rfl
  have h1 := h 1 _ rfl
  have h2 := h 2 _ rfl
  have h3 := h 3 _ rfl
  rw [add_base] at h0 h1 h2 h3
  exact ⟨h0, h1, h2, h3⟩
set_option maxRecDepth 100000 in
set_option maxHeartbeats 1000000 in
theorem airbuild_any (b g c : Nat) (w : World) (h4 : w.cell? ⟨b, 4, none⟩ = some (.slice (some ⟨g, 0, none⟩) 4 c)) (hg : g < w.heap.size) (hs : ∀ j u, (sv airStrs)[j]? = some u → w.cell? ((⟨g, 0, none⟩ : Addr).add j) = some u) :
    Calls Tryz.prog 126 #[.pointer (some ⟨b, 0, none⟩)] w (AirBuilt w) := by
  obtain ⟨s0, s1, s2, s3⟩ := air_cells hs
  have hz := zAir_val
  have hbu := build_air
  have hst := store_air
  have HST := Lib.hid (ASt.start w)
  clear hs
  go_enter Tryz.func126, Tryz.ntmps126
  go_wp2
  go_loop [4, 5] (fun a i => a = .bool true ∧ (i = .int .i64 0 ∨ i = .int .i64 2 ∨ i = .int .i64 4)) (fun _ i => 4 - (intOf i).toNat)
  case atStart => exact ⟨rfl, .inl rfl⟩
  case round =>
    rcases hrel with ⟨rfl, rfl | rfl | rfl⟩
    · go_wp2
      go_round
      case rel => exact ⟨rfl, .inr (.inl rfl)⟩
      case measure => simp [intOf]
    · go_wp2
      go_round
      case rel => exact ⟨rfl, .inr (.inr rfl)⟩
      case measure => simp [intOf]
    · go_wp2
      clear hz hbu hst
      go_loopw [7, 61] (fun y i wr => ∃ (k : Nat) (z : Value), y = z ∧ k ≤ 256 ∧ i = .int .i64 (k : Int) ∧ Hid (ASt w (fillF k) wr)) (fun _ i _ => 256 - (intOf i).toNat)
      case atStart => exact ⟨0, _, rfl, by omega, rfl, HST⟩
      case round =>
        obtain ⟨k, z, rfl, hk, rfl, HR⟩ := hrel
        by_cases hlt : k < 256
        · have hk2 : (k : Int) < 256 := by omega
          have hk0 : (0 : Int) ≤ (k : Int) := by omega
          have hw : IntKind.u8.wrap (k : Int) = (k : Int) := IntWalk.u8_in _ ⟨by omega, by omega⟩
          have hfree := HR.out.row.free k
          have hcell := HR.out.row.cell hlt
          have HN := Lib.hid (HR.out.step hlt)
          clear HR
          go_wp2
          go_roundw
          case rel => exact ⟨k + 1, _, rfl, by omega, by go_num, HN⟩
          case measure => simp [intOf] <;> omega
        · obtain rfl : k = 256 := by omega
          have HA := Lib.hid HR.out.full
          clear HR
          go_wp2
          go_loopw [8, 9, 10] (fun i o n wr => ∃ y z : Value, o = y ∧ n = z ∧ (i = .int .i64 2 ∧ Hid (ASt w (airF false false) wr) ∨ i = .int .i64 0 ∧ Hid (ASt w (airF true false) wr) ∨ i = .int .i64 (-2) ∧ Hid (ASt w (airF true true) wr))) (fun i _ _ _ => (intOf i + 2).toNat)
          case atStart => exact ⟨_, _, rfl, rfl, .inl ⟨rfl, HA⟩⟩
          case round =>
            obtain ⟨y, z, rfl, rfl, hr⟩ := hrel
            rcases hr with ⟨rfl, HR⟩ | ⟨rfl, HR⟩ | ⟨rfl, HR⟩
            · have t2 := (HR.out.bel.cell (p := ⟨g, 2, none⟩) hg).trans s2
              have t3 := (HR.out.bel.cell (p := ⟨g, 3, none⟩) hg).trans s3
              have hg10 : ((⟨#[10]⟩ : ByteArray)[0]'(by decide)).toNat = 10 := rfl
              have hg32 : ((⟨#[32]⟩ : ByteArray)[0]'(by decide)).toNat = 32 := rfl
              have hfree := HR.out.row.free 10
              have hcell := HR.out.row.cell (j := 10) (by omega)
              have HN := Lib.hid HR.out.lf
              clear HR
              go_wp2
              go_roundw
              case rel => exact ⟨_, _, rfl, rfl, .inr (.inl ⟨rfl, HN⟩)⟩
              case measure => simp [intOf]
            · have t0 := (HR.out.bel.cell (p := ⟨g, 0, none⟩) hg).trans s0
              have t1 := (HR.out.bel.cell (p := ⟨g, 1, none⟩) hg).trans s1
              have hg13 : ((⟨#[13]⟩ : ByteArray)[0]'(by decide)).toNat = 13 := rfl
              have hg32 : ((⟨#[32]⟩ : ByteArray)[0]'(by decide)).toNat = 32 := rfl
              have hfree := HR.out.row.free 13
              have hcell := HR.out.row.cell (j := 13) (by omega)
              have HN := Lib.hid HR.out.cr
              clear HR
              go_wp2
              go_roundw
              case rel => exact ⟨_, _, rfl, rfl, .inr (.inr ⟨rfl, HN⟩)⟩
              case measure => simp [intOf]
            · go_wp2
              go_ret
              exact ⟨_, rfl, HR.out.row, Nat.le_refl _, HR.out.bel⟩
end Go.Proofs.YtnpgnohlcphfnaaGreatDoor
