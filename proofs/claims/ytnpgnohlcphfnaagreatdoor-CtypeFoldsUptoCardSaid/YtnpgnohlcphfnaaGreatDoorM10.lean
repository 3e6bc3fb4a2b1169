/- The library: the replacing of the bytes that a quoted string escapes. The library: Replace of a new Replacer: built once, then asked. Layer 12: the contract of all. -/
import Derived.Test.YtnpgnohlcphfnaaGreatDoorShelf
import Derived.Laws.CopyOwn
import Derived.Test.YtnpgnohlcphfnaaGreatDoorM09
import Derived.Test.YtnpgnohlcphfnaaGreatDoorM08
import Derived.Test.YtnpgnohlcphfnaaGreatDoorM03
import Derived.Test.YtnpgnohlcphfnaaGreatDoorM06
import Derived.Test.YtnpgnohlcphfnaaGreatDoorM07
section
namespace Go.Proofs.YtnpgnohlcphfnaaGreatDoor
open Go.RowKit
set_option linter.unusedVariables false

/-- Block b is the row of the bytes l, whole. -/
def RowB (w : World) (b : Nat) (l : List UInt8) : Prop := ∃ T, w.heap[b]? = some (.cells (Lib.byteCells l).toArray T (0, 0))
section
variable {w w' : World} {b : Nat} {l : List UInt8}
theorem RowB.lt (h : RowB w b l) : b < w.heap.size := by
  obtain ⟨T, h1⟩ := h
  exact heap_lt h1
theorem RowB.bytes (h : RowB w b l) : ByteRow w b l := by
  obtain ⟨T, h1⟩ := h
  exact ⟨_, T, _, h1, fun j hj => by simp [Lib.byteCells, hj], .inr rfl⟩
theorem RowB.set (h : RowB w b l) {k : Nat} (c : UInt8) : RowB (w.setCell ⟨b, k, none⟩ (.int .u8 (c.toNat : Int))) b (l.set k c) := by
  obtain ⟨T, h1⟩ := h
  refine ⟨T, ?_⟩
  rw [setCell_eq_setRow w b k _ T _ _ h1]
  have h2 := setRow_heap w b _ ((Lib.byteCells l).toArray.setIfInBounds k (.int .u8 (c.toNat : Int))) T _ h1
  rw [h2]
  congr 2
  unfold Lib.byteCells
  simp [List.map_set]
theorem RowB.copy (h : RowB w b l) {off : Nat} (cs : List UInt8) {T : TypeId} {cur : Array Value} (hc : w.heap[b]? = some (.cells cur T (0, 0))) : RowB (w.setRow b (cur.toList.take off ++ (Lib.byteCells cs ++ cur.toList.drop (off + (Lib.byteCells cs).length))).toArray) b (l.take off ++ (cs ++ l.drop (off + cs.length))) := by
  obtain ⟨T', h1⟩ := h
  have e : cur = (Lib.byteCells l).toArray := by
    rw [hc] at h1
    injection h1 with h1
    injection h1
  refine ⟨T, ?_⟩
  rw [setRow_heap w b cur _ T _ hc, e]
  congr 2
  unfold Lib.byteCells
  simp
theorem RowB.made (W : World) (m : Nat) (T : TypeId) : RowB (W.alloc (.cells (madeCells #[.int .u8 0] m) T)) W.heap.size (List.replicate m 0) := by
  refine ⟨T, ?_⟩
  show (W.heap.push _)[W.heap.size]? = _
  rw [Array.getElem?_push_size]
  congr 2
  unfold Lib.byteCells
  rw [List.map_replicate]
  apply Array.ext
  · simp [madeCells]
  · intro i h1 h2
    simp [madeCells, Nat.mod_one]
end
theorem nil_neq (W : World) : (binOp .neq 59 (.slice none 0 0) (.slice none 0 0)).run Tryz.prog W = .ok (.bool false) W := by kernel_rfl
theorem some_neq (p c : Nat) (W : World) : (binOp .neq 59 (.slice (some ⟨p, 0, none⟩) 2 c) (.slice none 0 0)).run Tryz.prog W = .ok (.bool true) W := by kernel_rfl
theorem make_buf {m : Nat} (hm : m < 1099511627776) (W : World) : (Instr.makeSlice 59 (.int .i64 (m : Int)) (.int .i64 (m : Int))).run Tryz.prog W = .ok (.slice (some ⟨W.heap.size, 0, none⟩) m m) (W.alloc (.cells (madeCells #[.int .u8 0] m) 5)) := by
  obtain ⟨i0, hi, hz0, hz1, hz2⟩ := info_parts info_u8
  have := run_make (P := Tryz.prog) W 59 5 i0 (.int .u8 0) Tryz.underlying59 hi hz0 .i64 .i64 (m : Int) (m : Int) (by omega) (by omega) (by rw [hz2]; omega) (by omega)
  rw [this, hz1, Nat.mul_one]
  rfl
theorem str_fin0 {w w' : World} {l : List UInt8} {t : ByteArray} (ht : t = ba l) (hb : Below w.heap.size w w') : StrB w l (.returned (.string t)) w' := by
  subst ht
  exact ⟨rfl, hb⟩
/-- The state of the counting loop. -/
theorem splice_bytes {w4 : World} {g : Nat} {T : TypeId} {L : List UInt8} {j : Nat} {a b : UInt8} (h : w4.heap[g]? = some (.cells (splice (Lib.byteCells L) j [.int .u8 (a.toNat : Int), .int .u8 (b.toNat : Int)]).toArray T (0, 0))) : RowB w4 g (L.take j ++ ([a, b] ++ L.drop (j + 2))) := by
  refine ⟨T, h.trans ?_⟩
  congr 2
  unfold splice Lib.byteCells
  simp
theorem src_cells {w : World} {p : Nat} {a b : UInt8} (h : ByteRow w p [a, b]) : ∀ j v, ([.int .u8 (a.toNat : Int), .int .u8 (b.toNat : Int)] : List Value)[j]? = some v → w.cell? ((⟨p, 0, none⟩ : Addr).add j) = some v := fun j v hv => by
  match j, hv with
  | 0, hv =>
    injection hv with hv
    rw [← hv]
    exact h.cells 0 (by simp)
  | 1, hv =>
    injection hv with hv
    rw [← hv]
    exact h.cells 1 (by simp)
  | j + 2, hv => simp at hv
def CtRel (l : List UInt8) (k : Nat) (z : Int) (any : Bool) : Prop := z = (l.length : Int) + (nEsc (l.take k) : Int) ∧ any = decide (nEsc (l.take k) ≠ 0)
theorem CtRel.same {l : List UInt8} {k : Nat} {z : Int} {any : Bool} (hk : k < l.length) (h : ¬ (l[k] = 92 ∨ l[k] = 34)) (hr : CtRel l k z any) : CtRel l (k + 1) z any := by
  unfold CtRel at hr ⊢
  rw [nEsc_take hk, if_neg h]
  exact hr
theorem CtRel.more {l : List UInt8} {k : Nat} {z : Int} {any : Bool} (hk : k < l.length) (h : l[k] = 92 ∨ l[k] = 34) (hr : CtRel l k z any) : CtRel l (k + 1) (z + 1) true := by
  unfold CtRel at hr ⊢
  rw [nEsc_take hk, if_pos h]
  refine ⟨by omega, ?_⟩
  rw [decide_eq_true (by omega)]
/-- The state of the copying loop. -/
structure CpRel (w : World) (b : Nat) (l : List UInt8) (k : Nat) (j : Int) (wr : World) : Prop where
  row : RowB wr b (bufL l k)
  pos : j = ((escQ (l.take k)).length : Int)
  bel : Below w.heap.size w wr
theorem ReplAt.cells {B : Nat} {w : World} {R : Nat} {f : Nat → Value} {p q s c1 c2 c3 : Nat} (h : ReplAt B w R f p q s c1 c2 c3) :
    w.cell? ⟨R, 34, none⟩ = some (.slice (some ⟨p, 0, none⟩) 2 c1) ∧ w.cell? ⟨R, 92, none⟩ = some (.slice (some ⟨q, 0, none⟩) 2 c2) ∧ ∀ j, j < 256 → j ≠ 34 → j ≠ 92 → w.cell? ⟨R, j, none⟩ = some (.slice none 0 0) := by
  refine ⟨?_, ?_, fun j hj h1 h2 => ?_⟩
  · rw [h.row.cell (by omega), h.f34]
  · rw [h.row.cell (by omega), h.f92]
  · rw [h.row.cell (by omega), h.other j hj h1 h2]
set_option maxRecDepth 100000 in
set_option maxHeartbeats 4000000 in
theorem repl_any (l : List UInt8) (B R : Nat) (w : World) (hl : l.length ≤ 1000000000) (hR : Repl B w R) :
    Calls Tryz.prog 270 #[.pointer (some ⟨R, 0, none⟩), .string (ba l)] w (StrB w (escQ l)) := by
  obtain ⟨f, p9, q, sb, c1, c2, c3, hat⟩ := hR
  have HROW := Lib.hid (show ∀ w', Below w.heap.size w w' → w'.cell? ⟨R, 34, none⟩ = some (.slice (some ⟨p9, 0, none⟩) 2 c1) ∧ w'.cell? ⟨R, 92, none⟩ = some (.slice (some ⟨q, 0, none⟩) 2 c2) ∧ ∀ j, j < 256 → j ≠ 34 → j ≠ 92 → w'.cell? ⟨R, j, none⟩ = some (.slice none 0 0) from fun w' hb => by
    have h := hat.cells
    have hlt := hat.row.lt
    exact ⟨(hb.cell (p := ⟨R, 34, none⟩) hlt).trans h.1, (hb.cell (p := ⟨R, 92, none⟩) hlt).trans h.2.1, fun j h1 h2 h3 => (hb.cell (p := ⟨R, j, none⟩) hlt).trans (h.2.2 j h1 h2 h3)⟩)
  have HPB := Lib.hid (show ∀ w', Below w.heap.size w w' → ByteRow w' p9 [92, 34] ∧ ByteRow w' q [92, 92] from fun w' hb => ⟨hat.r34.kept (hb.block _ hat.r34.lt), hat.r92.kept (hb.block _ hat.r92.lt)⟩)
  have r256 : w.cell? ⟨R, 256, none⟩ = some (.slice (some ⟨sb, 0, none⟩) 2 c3) := by rw [hat.row.cell (by omega), hat.list]
  have HSTR := Lib.hid (show ∀ w', Below w.heap.size w w' → w'.cell? ⟨sb, 0, none⟩ = some (.string ⟨#[34]⟩) ∧ w'.cell? ⟨sb, 1, none⟩ = some (.string ⟨#[92]⟩) from fun w' hb => ⟨(hb.cell (p := ⟨sb, 0, none⟩) hat.lt).trans hat.strs.1, (hb.cell (p := ⟨sb, 1, none⟩) hat.lt).trans hat.strs.2⟩)
  have HEL := Lib.hid (escQ_len l)
  have HNE := Lib.hid (show nEsc l ≤ l.length by have := nEsc_le l l.length; rwa [List.take_of_length_le (Nat.le_refl _)] at this)
  have HTK := Lib.hid (List.take_of_length_le (Nat.le_refl l.length))
  have hnn := nil_neq
  have hsn := some_neq
  have HC34 := Lib.hid (fun W => Tryz.strings_Count_one (ba l) 34 W)
  have HC92 := Lib.hid (fun W => Tryz.strings_Count_one (ba l) 92 W)
  have HCN := Lib.hid (show (Lib.countByte (ba l).data.toList 34 : Int) = (l.count 34 : Int) ∧ (Lib.countByte (ba l).data.toList 92 : Int) = (l.count 92 : Int) from ⟨rfl, rfl⟩)
  clear hat
  obtain ⟨n, hn⟩ : ∃ n, l.length = n := ⟨_, rfl⟩
  have HL := Lib.hid hn
  obtain ⟨s, hs⟩ : ∃ s, ba l = s := ⟨_, rfl⟩
  have HS := Lib.hid hs
  have HZ := Lib.hid (show s.size = n by rw [← hs, ba_size, hn])
  have hsz : (s.size : Int) = n := by rw [HZ.out]
  rw [hs]
  rw [hn] at hl
  clear hs hn
  rw [HS.out] at HC34 HC92 HCN
  by_cases h16 : 16 ≤ n
  · have h16i : (16 : Int) ≤ (n : Int) := by omega
    obtain ⟨a1, ha1⟩ : ∃ a, l.count 34 = a := ⟨_, rfl⟩
    obtain ⟨a2, ha2⟩ : ∃ a, l.count 92 = a := ⟨_, rfl⟩
    have HC1 := Lib.hid (show ∀ W, Calls Tryz.prog 202 #[.string s, .string ⟨#[34]⟩] W fun e w' => e = .returned (.int .i64 (a1 : Int)) ∧ w' = W from fun W => (HC34.out W).mono (by
      rintro e w' ⟨rfl, rfl⟩
      rw [HCN.out.1, ha1]
      exact ⟨rfl, rfl⟩))
    have HC2 := Lib.hid (show ∀ W, Calls Tryz.prog 202 #[.string s, .string ⟨#[92]⟩] W fun e w' => e = .returned (.int .i64 (a2 : Int)) ∧ w' = W from fun W => (HC92.out W).mono (by
      rintro e w' ⟨rfl, rfl⟩
      rw [HCN.out.2, ha2]
      exact ⟨rfl, rfl⟩))
    have HNN := Lib.hid (show nEsc l = a1 + a2 by unfold nEsc; rw [ha1, ha2])
    have hab : a1 + a2 ≤ 1000000000 := by have := HNE.out; rw [HNN.out, HL.out] at this; omega
    have hg34 : ((⟨#[34]⟩ : ByteArray)[0]'(by decide)).toNat = 34 := rfl
    have hg92 : ((⟨#[92]⟩ : ByteArray)[0]'(by decide)).toNat = 92 := rfl
    clear ha1 ha2 HC34 HC92 HCN
    go_enter Tryz.func270, Tryz.ntmps270
    go_wp2
    go_loopw [5, 6, 8, 9, 32] (fun v a x c i wr => ∃ (y1 y2 : Value) (z : Int) (any : Bool), Hid (Below w.heap.size w wr) ∧ x = y1 ∧ c = y2 ∧ v = .int .i64 z ∧ a = .bool any ∧ (i = .int .i64 0 ∧ z = (n : Int) ∧ any = false ∨ i = .int .i64 1 ∧ z = (n : Int) + (a1 : Int) ∧ any = decide (a1 ≠ 0) ∨ i = .int .i64 2 ∧ z = (n : Int) + (a1 : Int) + (a2 : Int) ∧ any = decide (a1 + a2 ≠ 0))) (fun _ _ _ _ i _ => 2 - (intOf i).toNat)
    case atStart => exact ⟨_, _, (n : Int), false, Lib.hid (Below.refl _ _), rfl, rfl, rfl, rfl, .inl ⟨rfl, rfl, rfl⟩⟩
    case round =>
      obtain ⟨y1, y2, z, any, HV0, rfl, rfl, rfl, rfl, hr⟩ := hrel
      obtain ⟨v0, rfl⟩ : ∃ v0, v0 = wr := ⟨_, rfl⟩
      have c34 := (HROW.out v0 HV0.out).1
      have c92 := (HROW.out v0 HV0.out).2.1
      have s0 := HSTR.out v0 HV0.out
      have s1 := s0.2
      have s0 := s0.1
      rcases hr with ⟨rfl, hz, hae⟩ | ⟨rfl, hz, hae⟩ | ⟨rfl, hz, hae⟩
      · have hzb : 0 ≤ z ∧ z ≤ 4000000000 := by omega
        obtain ⟨hz0, hz1⟩ := hzb
        have HZE := Lib.hid hz
        have HAE := Lib.hid hae
        clear hz hae
        go_wp2_with fail
        refine (HC1.out _).mono ?_
        rintro e w2 ⟨rfl, hw⟩
        have hw2 := hw.symm
        subst hw2
        clear hw
        by_cases ha : a1 = 0
        · have g1 : ((a1 : Int) != 0) = false := by simp [ha]
          have HA := Lib.hid ha
          clear ha
          go_wp2
          go_roundw
          case rel => exact ⟨_, _, z, any, HV0, rfl, rfl, rfl, rfl, .inr (.inl ⟨rfl, by have := HZE.out; have := HA.out; omega, by rw [HAE.out]; exact (decide_eq_false (fun h => h HA.out)).symm⟩)⟩
          case measure => simp [intOf]
        · have g1 : ((a1 : Int) != 0) = true := by simp; omega
          have HA := Lib.hid ha
          have hai : (a1 : Int) ≤ 1000000000 := by omega
          clear ha
          go_wp2
          go_region
          all_goals
            go_wp2
            go_roundw
            case rel => exact ⟨_, _, _, true, Lib.hid HV0.out.drew, rfl, rfl, rfl, rfl, .inr (.inl ⟨rfl, by have := HZE.out; omega, (decide_eq_true (by have := HA.out; omega)).symm⟩)⟩
            case measure => simp [intOf]
      · have hzb : 0 ≤ z ∧ z ≤ 4000000000 := by omega
        obtain ⟨hz0, hz1⟩ := hzb
        have HZE := Lib.hid hz
        have HAE := Lib.hid hae
        clear hz hae
        go_wp2_with fail
        refine (HC2.out _).mono ?_
        rintro e w2 ⟨rfl, hw⟩
        have hw2 := hw.symm
        subst hw2
        clear hw
        by_cases ha : a2 = 0
        · have g1 : ((a2 : Int) != 0) = false := by simp [ha]
          have HA := Lib.hid ha
          clear ha
          go_wp2
          go_roundw
          case rel => exact ⟨_, _, z, any, HV0, rfl, rfl, rfl, rfl, .inr (.inr ⟨rfl, by have := HZE.out; have := HA.out; omega, by rw [HAE.out, decide_eq_decide]; have := HA.out; omega⟩)⟩
          case measure => simp [intOf]
        · have g1 : ((a2 : Int) != 0) = true := by simp; omega
          have HA := Lib.hid ha
          have hai : (a2 : Int) ≤ 1000000000 := by omega
          clear ha
          go_wp2
          go_region
          all_goals
            go_wp2
            go_roundw
            case rel => exact ⟨_, _, _, true, Lib.hid HV0.out.drew, rfl, rfl, rfl, rfl, .inr (.inr ⟨rfl, by have := HZE.out; omega, (decide_eq_true (by have := HA.out; omega)).symm⟩)⟩
            case measure => simp [intOf]
      · have hze : z = (n : Int) + (nEsc l : Int) := by rw [HNN.out]; omega
        rw [← HNN.out] at hae
        rw [HL.out] at HEL
        clear hz
        have hnz : z = ((escQ l).length : Int) := by rw [HEL.out]; omega
        by_cases hany : nEsc l = 0
        · have HV := Lib.hid (escQ_same l hany)
          have hb0 : any = false := by rw [hae]; exact decide_eq_false (by omega)
          subst hb0
          clear hany hae hze hnz
          go_wp2
          go_ret
          exact str_fin0 (by rw [HV.out, HS.out]) HV0.out
        · have hb0 : any = true := by rw [hae]; exact decide_eq_true hany
          subst hb0
          obtain ⟨m, hm⟩ : ∃ m, (escQ l).length = m := ⟨_, rfl⟩
          have hmb : m < 1099511627776 := by have := HEL.out; have := HL.out; have := HNE.out; omega
          rw [hm] at hnz
          subst hnz
          have hmk := make_buf hmb
          have HM := Lib.hid hm
          have HB0 := Lib.hid (show RowB (v0.alloc (.cells (madeCells #[.int .u8 0] m) 5)) v0.heap.size (bufL l 0) by rw [bufL_zero, hm]; exact RowB.made v0 m 5)
          clear hany hae hze hm
          go_wp2
          go_loopw [13, 14, 15] (fun j i c wr => ∃ (k : Nat) (p : Int) (y : Value), c = y ∧ k ≤ n ∧ i = .int .i64 (k : Int) ∧ j = .int .i64 p ∧ Hid (CpRel v0 v0.heap.size l k p wr)) (fun _ i _ _ => n - (intOf i).toNat)
          case atStart => exact ⟨0, 0, _, rfl, Nat.zero_le _, rfl, rfl, Lib.hid ⟨HB0.out, rfl, (Below.refl _ _).alloc (Nat.le_refl _) _⟩⟩
          case round =>
            obtain ⟨k, p, y, rfl, hk, rfl, rfl, HR⟩ := hrel
            have hsz3 := HR.out.bel.size
            have hblt := HR.out.row.lt
            by_cases hlt : k < n
            · have hk2 : (k : Int) < (n : Int) := by omega
              have hk0 : (0 : Int) ≤ (k : Int) := by omega
              have hks : k < s.size := by rw [HZ.out]; omega
              have hkl : k < l.length := by rw [HL.out]; omega
              have hget : s[k] = l[k] := by
                have h := HS.out
                subst h
                rfl
              have HTWO := Lib.hid (bufL_two hkl)
              have HONE := Lib.hid (bufL_one hkl)
              have hpe := HR.out.pos
              obtain ⟨j, hj⟩ : ∃ j, (escQ (l.take k)).length = j := ⟨_, rfl⟩
              rw [hj] at hpe HTWO HONE
              subst hpe
              have HJ := Lib.hid hj
              clear hj
              obtain ⟨c, hc⟩ : ∃ c, l[k] = c := ⟨_, rfl⟩
              rw [hc] at hget HTWO HONE
              obtain ⟨x, hx⟩ : ∃ x : Int, (c.toNat : Int) = x := ⟨_, rfl⟩
              have hgi : ((s[k]).toNat : Int) = x := by rw [hget]; exact hx
              have HX := Lib.hid hx
              have hx0 : 0 ≤ x := by omega
              have hx1 : x ≤ 255 := by have := c.toNat_lt; omega
              clear hc hkl hget hx
              have HCW := Lib.hid (HROW.out (w' := wr) (HV0.out.trans (HR.out.bel.mono HV0.out.size)))
              have HRW := Lib.hid HR.out.row
              have HBE := Lib.hid HR.out.bel
              clear HR
              by_cases e1 : c = 92
              · have HT2 := Lib.hid (HTWO.out (.inl e1))
                obtain rfl : x = 92 := by rw [← HX.out, e1]; rfl
                subst e1
                have c0 := HCW.out.2.1
                have HSRC := Lib.hid (src_cells (a := 92) (b := 92) (HPB.out wr (HV0.out.trans (HBE.out.mono HV0.out.size))).2)
                have hjm : j + 2 ≤ m := by rw [← HM.out]; exact HT2.out.2.1
                have hjm2 : (j : Int) < (m : Int) := by omega
                have hjm3 : (j : Int) ≤ (m : Int) := by omega
                have hjm4 : ¬ m = j := by omega
                obtain ⟨T9, hcur⟩ := HRW.out
                have HCUR := Lib.hid hcur
                have HMIN := Lib.hid (show 2 = Nat.min 2 (m - j) from (Nat.min_eq_left (by omega)).symm)
                have HFIT := Lib.hid (show j + 2 ≤ (Lib.byteCells (bufL l k)).length by rw [Lib.byteCells_length, bufL_len, HM.out]; exact hjm)
                clear hcur
                go_wp2
                go_region_law
                  (refine step_copy_splice rfl (.tmp 105) (.tmp 111) 59 59 rfl 5 Tryz.underlying59 (by kernel_rfl) (some ⟨v0.heap.size, j, none⟩) (some ⟨q, 0, none⟩) (m - j) (m - j) 2 c2 rfl rfl v0.heap.size j (Lib.byteCells (bufL l k)) T9 HCUR.out [.int .u8 92, .int .u8 92] HMIN.out (fun _ => ⟨rfl, _, rfl, HSRC.out⟩) HFIT.out (by simp [Value.oneCell']) v0.heap.size v0 HBE.out.drew (Nat.le_refl _) ?_; intro w4 hg4 hb4; (have HG4 := Lib.hid (splice_bytes (a := 92) (b := 92) hg4.out); have HB4 := Lib.hid hb4; clear hg4 hb4))
                all_goals
                  go_wp2
                  go_roundw
                  case rel =>
                    refine ⟨k + 1, _, _, rfl, by omega, by go_num, rfl, Lib.hid ⟨?_, ?_, HB4.out⟩⟩
                    · rw [HT2.out.1]
                      exact HG4.out
                    · rw [HT2.out.2.2]
                      rfl
                  case measure => simp [intOf] <;> omega
              by_cases e2 : c = 34
              · have HT2 := Lib.hid (HTWO.out (.inr e2))
                obtain rfl : x = 34 := by rw [← HX.out, e2]; rfl
                subst e2
                have c0 := HCW.out.1
                clear e1
                have HSRC := Lib.hid (src_cells (a := 92) (b := 34) (HPB.out wr (HV0.out.trans (HBE.out.mono HV0.out.size))).1)
                have hjm : j + 2 ≤ m := by rw [← HM.out]; exact HT2.out.2.1
                have hjm2 : (j : Int) < (m : Int) := by omega
                have hjm3 : (j : Int) ≤ (m : Int) := by omega
                have hjm4 : ¬ m = j := by omega
                obtain ⟨T9, hcur⟩ := HRW.out
                have HCUR := Lib.hid hcur
                have HMIN := Lib.hid (show 2 = Nat.min 2 (m - j) from (Nat.min_eq_left (by omega)).symm)
                have HFIT := Lib.hid (show j + 2 ≤ (Lib.byteCells (bufL l k)).length by rw [Lib.byteCells_length, bufL_len, HM.out]; exact hjm)
                clear hcur
                go_wp2
                go_region_law
                  (refine step_copy_splice rfl (.tmp 105) (.tmp 111) 59 59 rfl 5 Tryz.underlying59 (by kernel_rfl) (some ⟨v0.heap.size, j, none⟩) (some ⟨p9, 0, none⟩) (m - j) (m - j) 2 c1 rfl rfl v0.heap.size j (Lib.byteCells (bufL l k)) T9 HCUR.out [.int .u8 92, .int .u8 34] HMIN.out (fun _ => ⟨rfl, _, rfl, HSRC.out⟩) HFIT.out (by simp [Value.oneCell']) v0.heap.size v0 HBE.out.drew (Nat.le_refl _) ?_; intro w4 hg4 hb4; (have HG4 := Lib.hid (splice_bytes (a := 92) (b := 34) hg4.out); have HB4 := Lib.hid hb4; clear hg4 hb4))
                all_goals
                  go_wp2
                  go_roundw
                  case rel =>
                    refine ⟨k + 1, _, _, rfl, by omega, by go_num, rfl, Lib.hid ⟨?_, ?_, HB4.out⟩⟩
                    · rw [HT2.out.1]
                      exact HG4.out
                    · rw [HT2.out.2.2]
                      rfl
                  case measure => simp [intOf] <;> omega
              · have hx34 : x ≠ 34 := fun e => e2 (UInt8.toNat_inj.1 (by have := HX.out; show c.toNat = 34; omega))
                have hx92 : x ≠ 92 := fun e => e1 (UInt8.toNat_inj.1 (by have := HX.out; show c.toNat = 92; omega))
                have c0 := HCW.out.2.2 x.toNat (by omega) (by omega) (by omega)
                have HT1 := Lib.hid (HONE.out (fun h => h.elim e1 e2))
                have hjm : j < m := by rw [← HM.out]; exact HT1.out.2.1
                have hjm2 : (j : Int) < (m : Int) := by omega
                have hcell := HRW.out.bytes.cell (j := j) (by rw [bufL_len, HM.out]; exact hjm)
                have hfree := HRW.out.bytes.free (j := j) (by rw [bufL_len, HM.out]; exact hjm)
                have HSET := Lib.hid (HRW.out.set (k := j) c)
                clear e1 e2
                go_wp2
                go_roundw
                case rel =>
                  refine ⟨k + 1, _, _, rfl, by omega, by go_num, rfl, Lib.hid ⟨?_, ?_, HBE.out.setCell (Nat.le_refl _) _⟩⟩
                  · rw [HT1.out.1, ← HX.out]
                    exact HSET.out
                  · rw [HT1.out.2.2]
                    rfl
                case measure => simp [intOf] <;> omega
            · obtain rfl : k = n := by omega
              have hrow : RowB wr v0.heap.size (escQ l) := by
                have := HR.out.row
                rw [bufL_end l (by rw [HL.out]; exact Nat.le_refl _)] at this
                exact this
              have hback := run_convert_bytes_back (P := Tryz.prog) wr 59 9 5 ⟨v0.heap.size, 0, none⟩ m (escQ l) Tryz.underlying59 Tryz.underlying5 Tryz.underlying9 hrow.bytes.cells
              rw [HM.out] at hback
              have HBE := Lib.hid HR.out.bel
              clear hrow HR
              go_wp2
              go_ret
              exact str_fin0 rfl (HV0.out.trans (HBE.out.mono HV0.out.size))
  · have h16i : ¬ (16 : Int) ≤ (n : Int) := by omega
    go_enter Tryz.func270, Tryz.ntmps270
    go_wp2
    go_loop [5, 6, 10, 11] (fun v a i c => ∃ (k : Nat) (z : Int) (any : Bool) (y : Value), c = y ∧ k ≤ n ∧ i = .int .i64 (k : Int) ∧ v = .int .i64 z ∧ a = .bool any ∧ Hid (CtRel l k z any)) (fun _ _ i _ => n - (intOf i).toNat)
    case atStart => exact ⟨0, (n : Int), false, _, rfl, Nat.zero_le _, rfl, rfl, rfl, Lib.hid ⟨by rw [HL.out]; show (n : Int) = (n : Int) + ((nEsc [] : Nat) : Int); rw [show nEsc [] = 0 from rfl]; omega, rfl⟩⟩
    case round =>
      obtain ⟨k, z, any, y, rfl, hk, rfl, rfl, rfl, HR⟩ := hrel
      have hzb : 0 ≤ z ∧ z ≤ 4000000000 := by
        have h1 := HR.out.1
        have h2 := nEsc_le l k
        have h3 := HL.out
        omega
      obtain ⟨hz0, hz1⟩ := hzb
      by_cases hlt : k < n
      · have hk2 : (k : Int) < (n : Int) := by omega
        have hk0 : (0 : Int) ≤ (k : Int) := by omega
        have hks : k < s.size := by rw [HZ.out]; omega
        have hkl : k < l.length := by rw [HL.out]; omega
        have hget : s[k] = l[k] := by
          have h := HS.out
          subst h
          rfl
        have HSA := Lib.hid (fun h => CtRel.same (z := z) (any := any) hkl h HR.out)
        have HMO := Lib.hid (fun h => CtRel.more (z := z) (any := any) hkl h HR.out)
        obtain ⟨c, hc⟩ : ∃ c, l[k] = c := ⟨_, rfl⟩
        rw [hc] at hget HSA HMO
        obtain ⟨x, hx⟩ : ∃ x : Int, (c.toNat : Int) = x := ⟨_, rfl⟩
        have hgi : ((s[k]).toNat : Int) = x := by rw [hget]; exact hx
        have HX := Lib.hid hx
        have hx0 : 0 ≤ x := by omega
        have hx1 : x ≤ 255 := by have := c.toNat_lt; omega
        clear hc hkl hget hx
        have HCW := Lib.hid (HROW.out w (Below.refl _ _))
        by_cases e1 : c = 92
        · have HM := Lib.hid (HMO.out (.inl e1))
          obtain rfl : x = 92 := by rw [← HX.out, e1]; rfl
          have c0 := HCW.out.2.1
          clear e1
          go_wp2
          go_round
          case rel => exact ⟨k + 1, z + 1, true, _, rfl, by omega, by go_num, rfl, rfl, HM⟩
          case measure => simp [intOf] <;> omega
        by_cases e2 : c = 34
        · have HM := Lib.hid (HMO.out (.inr e2))
          obtain rfl : x = 34 := by rw [← HX.out, e2]; rfl
          have c0 := HCW.out.1
          clear e1 e2
          go_wp2
          go_round
          case rel => exact ⟨k + 1, z + 1, true, _, rfl, by omega, by go_num, rfl, rfl, HM⟩
          case measure => simp [intOf] <;> omega
        · have hx34 : x ≠ 34 := fun e => e2 (UInt8.toNat_inj.1 (by have := HX.out; show c.toNat = 34; omega))
          have hx92 : x ≠ 92 := fun e => e1 (UInt8.toNat_inj.1 (by have := HX.out; show c.toNat = 92; omega))
          have c0 := HCW.out.2.2 x.toNat (by omega) (by omega) (by omega)
          have HM := Lib.hid (HSA.out (fun h => h.elim e1 e2))
          clear e1 e2
          go_wp2
          go_round
          case rel => exact ⟨k + 1, z, any, _, rfl, by omega, by go_num, rfl, rfl, HM⟩
          case measure => simp [intOf] <;> omega
      · obtain rfl : n = k := by omega
        have hz := HR.out
        unfold CtRel at hz
        rw [HL.out, List.take_of_length_le (by rw [HL.out]; exact Nat.le_refl _)] at hz
        obtain ⟨hze, hae⟩ := hz
        rw [HL.out] at HEL
        clear HR
        have hnz : z = ((escQ l).length : Int) := by rw [HEL.out]; omega
        by_cases hany : nEsc l = 0
        · have HV := Lib.hid (escQ_same l hany)
          have hb0 : any = false := by rw [hae]; exact decide_eq_false (by omega)
          subst hb0
          clear hany hae hze hnz
          go_wp2
          go_ret
          exact str_fin0 (by rw [HV.out, HS.out]) (Below.refl _ _)
        · have hb0 : any = true := by rw [hae]; exact decide_eq_true hany
          subst hb0
          obtain ⟨m, hm⟩ : ∃ m, (escQ l).length = m := ⟨_, rfl⟩
          have hmb : m < 1099511627776 := by have := HEL.out; have := HL.out; have := HNE.out; omega
          rw [hm] at hnz
          subst hnz
          have hmk := make_buf hmb
          have HM := Lib.hid hm
          have HB0 := Lib.hid (show RowB (w.alloc (.cells (madeCells #[.int .u8 0] m) 5)) w.heap.size (bufL l 0) by rw [bufL_zero, hm]; exact RowB.made w m 5)
          clear hany hae hze hm
          go_wp2
          go_loopw [13, 14, 15] (fun j i c wr => ∃ (k : Nat) (p : Int) (y : Value), c = y ∧ k ≤ n ∧ i = .int .i64 (k : Int) ∧ j = .int .i64 p ∧ Hid (CpRel w w.heap.size l k p wr)) (fun _ i _ _ => n - (intOf i).toNat)
          case atStart => exact ⟨0, 0, _, rfl, Nat.zero_le _, rfl, rfl, Lib.hid ⟨HB0.out, rfl, (Below.refl _ _).alloc (Nat.le_refl _) _⟩⟩
          case round =>
            obtain ⟨k, p, y, rfl, hk, rfl, rfl, HR⟩ := hrel
            have hsz3 := HR.out.bel.size
            have hblt := HR.out.row.lt
            by_cases hlt : k < n
            · have hk2 : (k : Int) < (n : Int) := by omega
              have hk0 : (0 : Int) ≤ (k : Int) := by omega
              have hks : k < s.size := by rw [HZ.out]; omega
              have hkl : k < l.length := by rw [HL.out]; omega
              have hget : s[k] = l[k] := by
                have h := HS.out
                subst h
                rfl
              have HTWO := Lib.hid (bufL_two hkl)
              have HONE := Lib.hid (bufL_one hkl)
              have hpe := HR.out.pos
              obtain ⟨j, hj⟩ : ∃ j, (escQ (l.take k)).length = j := ⟨_, rfl⟩
              rw [hj] at hpe HTWO HONE
              subst hpe
              have HJ := Lib.hid hj
              clear hj
              obtain ⟨c, hc⟩ : ∃ c, l[k] = c := ⟨_, rfl⟩
              rw [hc] at hget HTWO HONE
              obtain ⟨x, hx⟩ : ∃ x : Int, (c.toNat : Int) = x := ⟨_, rfl⟩
              have hgi : ((s[k]).toNat : Int) = x := by rw [hget]; exact hx
              have HX := Lib.hid hx
              have hx0 : 0 ≤ x := by omega
              have hx1 : x ≤ 255 := by have := c.toNat_lt; omega
              clear hc hkl hget hx
              have HCW := Lib.hid (HROW.out (w' := wr) HR.out.bel)
              have HRW := Lib.hid HR.out.row
              have HBE := Lib.hid HR.out.bel
              clear HR
              by_cases e1 : c = 92
              · have HT2 := Lib.hid (HTWO.out (.inl e1))
                obtain rfl : x = 92 := by rw [← HX.out, e1]; rfl
                subst e1
                have c0 := HCW.out.2.1
                have HSRC := Lib.hid (src_cells (a := 92) (b := 92) (HPB.out wr HBE.out).2)
                have hjm : j + 2 ≤ m := by rw [← HM.out]; exact HT2.out.2.1
                have hjm2 : (j : Int) < (m : Int) := by omega
                have hjm3 : (j : Int) ≤ (m : Int) := by omega
                have hjm4 : ¬ m = j := by omega
                obtain ⟨T9, hcur⟩ := HRW.out
                have HCUR := Lib.hid hcur
                have HMIN := Lib.hid (show 2 = Nat.min 2 (m - j) from (Nat.min_eq_left (by omega)).symm)
                have HFIT := Lib.hid (show j + 2 ≤ (Lib.byteCells (bufL l k)).length by rw [Lib.byteCells_length, bufL_len, HM.out]; exact hjm)
                clear hcur
                go_wp2
                go_region_law
                  (refine step_copy_splice rfl (.tmp 105) (.tmp 111) 59 59 rfl 5 Tryz.underlying59 (by kernel_rfl) (some ⟨w.heap.size, j, none⟩) (some ⟨q, 0, none⟩) (m - j) (m - j) 2 c2 rfl rfl w.heap.size j (Lib.byteCells (bufL l k)) T9 HCUR.out [.int .u8 92, .int .u8 92] HMIN.out (fun _ => ⟨rfl, _, rfl, HSRC.out⟩) HFIT.out (by simp [Value.oneCell']) w.heap.size w HBE.out.drew (Nat.le_refl _) ?_; intro w4 hg4 hb4; (have HG4 := Lib.hid (splice_bytes (a := 92) (b := 92) hg4.out); have HB4 := Lib.hid hb4; clear hg4 hb4))
                all_goals
                  go_wp2
                  go_roundw
                  case rel =>
                    refine ⟨k + 1, _, _, rfl, by omega, by go_num, rfl, Lib.hid ⟨?_, ?_, HB4.out⟩⟩
                    · rw [HT2.out.1]
                      exact HG4.out
                    · rw [HT2.out.2.2]
                      rfl
                  case measure => simp [intOf] <;> omega
              by_cases e2 : c = 34
              · have HT2 := Lib.hid (HTWO.out (.inr e2))
                obtain rfl : x = 34 := by rw [← HX.out, e2]; rfl
                subst e2
                have c0 := HCW.out.1
                clear e1
                have HSRC := Lib.hid (src_cells (a := 92) (b := 34) (HPB.out wr HBE.out).1)
                have hjm : j + 2 ≤ m := by rw [← HM.out]; exact HT2.out.2.1
                have hjm2 : (j : Int) < (m : Int) := by omega
                have hjm3 : (j : Int) ≤ (m : Int) := by omega
                have hjm4 : ¬ m = j := by omega
                obtain ⟨T9, hcur⟩ := HRW.out
                have HCUR := Lib.hid hcur
                have HMIN := Lib.hid (show 2 = Nat.min 2 (m - j) from (Nat.min_eq_left (by omega)).symm)
                have HFIT := Lib.hid (show j + 2 ≤ (Lib.byteCells (bufL l k)).length by rw [Lib.byteCells_length, bufL_len, HM.out]; exact hjm)
                clear hcur
                go_wp2
                go_region_law
                  (refine step_copy_splice rfl (.tmp 105) (.tmp 111) 59 59 rfl 5 Tryz.underlying59 (by kernel_rfl) (some ⟨w.heap.size, j, none⟩) (some ⟨p9, 0, none⟩) (m - j) (m - j) 2 c1 rfl rfl w.heap.size j (Lib.byteCells (bufL l k)) T9 HCUR.out [.int .u8 92, .int .u8 34] HMIN.out (fun _ => ⟨rfl, _, rfl, HSRC.out⟩) HFIT.out (by simp [Value.oneCell']) w.heap.size w HBE.out.drew (Nat.le_refl _) ?_; intro w4 hg4 hb4; (have HG4 := Lib.hid (splice_bytes (a := 92) (b := 34) hg4.out); have HB4 := Lib.hid hb4; clear hg4 hb4))
                all_goals
                  go_wp2
                  go_roundw
                  case rel =>
                    refine ⟨k + 1, _, _, rfl, by omega, by go_num, rfl, Lib.hid ⟨?_, ?_, HB4.out⟩⟩
                    · rw [HT2.out.1]
                      exact HG4.out
                    · rw [HT2.out.2.2]
                      rfl
                  case measure => simp [intOf] <;> omega
              · have hx34 : x ≠ 34 := fun e => e2 (UInt8.toNat_inj.1 (by have := HX.out; show c.toNat = 34; omega))
                have hx92 : x ≠ 92 := fun e => e1 (UInt8.toNat_inj.1 (by have := HX.out; show c.toNat = 92; omega))
                have c0 := HCW.out.2.2 x.toNat (by omega) (by omega) (by omega)
                have HT1 := Lib.hid (HONE.out (fun h => h.elim e1 e2))
                have hjm : j < m := by rw [← HM.out]; exact HT1.out.2.1
                have hjm2 : (j : Int) < (m : Int) := by omega
                have hcell := HRW.out.bytes.cell (j := j) (by rw [bufL_len, HM.out]; exact hjm)
                have hfree := HRW.out.bytes.free (j := j) (by rw [bufL_len, HM.out]; exact hjm)
                have HSET := Lib.hid (HRW.out.set (k := j) c)
                clear e1 e2
                go_wp2
                go_roundw
                case rel =>
                  refine ⟨k + 1, _, _, rfl, by omega, by go_num, rfl, Lib.hid ⟨?_, ?_, HBE.out.setCell (Nat.le_refl _) _⟩⟩
                  · rw [HT1.out.1, ← HX.out]
                    exact HSET.out
                  · rw [HT1.out.2.2]
                    rfl
                case measure => simp [intOf] <;> omega
            · obtain rfl : k = n := by omega
              have hrow : RowB wr w.heap.size (escQ l) := by
                have := HR.out.row
                rw [bufL_end l (by rw [HL.out]; exact Nat.le_refl _)] at this
                exact this
              have hback := run_convert_bytes_back (P := Tryz.prog) wr 59 9 5 ⟨w.heap.size, 0, none⟩ m (escQ l) Tryz.underlying59 Tryz.underlying5 Tryz.underlying9 hrow.bytes.cells
              rw [HM.out] at hback
              have HBE := Lib.hid HR.out.bel
              clear hrow HR
              go_wp2
              go_ret
              exact str_fin0 rfl HBE.out
end Go.Proofs.YtnpgnohlcphfnaaGreatDoor
end
section
namespace Go.Proofs.YtnpgnohlcphfnaaGreatDoor
open Go.RowKit
set_option linter.unusedVariables false

theorem ReplAt.kept {B : Nat} {w w' : World} {R : Nat} {f : Nat → Value} {p q s c1 c2 c3 : Nat} (h : ReplAt B w R f p q s c1 c2 c3) (hb : ∀ k, B ≤ k → k < w.heap.size → w'.heap[k]? = w.heap[k]?) : ReplAt B w' R f p q s c1 c2 c3 := by
  obtain ⟨l1, l2, l3, l4⟩ := h.low
  have hs := hb s l4 h.lt
  refine ⟨h.row.kept (hb R l1 h.row.lt), h.list, h.f34, h.f92, h.other, h.r34.kept (hb p l2 h.r34.lt), h.r92.kept (hb q l3 h.r92.lt), ⟨?_, ?_⟩, h.low, ?_⟩
  · rw [← h.strs.1]
    exact World.cell?_of_block hs
  · rw [← h.strs.2]
    exact World.cell?_of_block hs
  · have h2 := h.lt
    rw [Array.getElem?_eq_getElem h2] at hs
    exact heap_lt hs
theorem Repl.kept {B : Nat} {w w' : World} {R : Nat} (h : Repl B w R) (hb : ∀ k, B ≤ k → k < w.heap.size → w'.heap[k]? = w.heap[k]?) : Repl B w' R := by
  obtain ⟨f, p, q, s, c1, c2, c3, hat⟩ := h
  exact ⟨f, p, q, s, c1, c2, c3, hat.kept hb⟩
theorem Repl.lt {B : Nat} {w : World} {R : Nat} (h : Repl B w R) : B ≤ R ∧ R < w.heap.size := by
  obtain ⟨f, p, q, s, c1, c2, c3, hat⟩ := h
  exact ⟨hat.low.1, hat.row.lt⟩
/-- What buildOnce leaves behind. -/
structure OnceK (w : World) (b : Nat) (w2 : World) : Prop where
  ex : ∃ R, RowV w2 b 5 (repF 0 1 (.iface 190 (.pointer (some ⟨R, 0, none⟩))) (.slice none 0 0)) ∧ Repl w.heap.size w2 R
  bel : ∀ k, k < w.heap.size → k ≠ b → w2.heap[k]? = w.heap[k]?
  rest : w2.os = w.os ∧ w2.tape = w.tape ∧ w2.output = w.output ∧ w.heap.size ≤ w2.heap.size
set_option maxRecDepth 100000 in
set_option maxHeartbeats 1000000 in
theorem buildOnce_any (b g c : Nat) (w : World) (hrow : RowV w b 5 (repF 0 1 .nilIface (.slice (some ⟨g, 0, none⟩) 4 c))) (hg : g < w.heap.size) (hs : ∀ j u, (sv escStrs)[j]? = some u → w.cell? ((⟨g, 0, none⟩ : Addr).add j) = some u) :
    Calls Tryz.prog 86 #[.pointer (some ⟨b, 0, none⟩)] w fun e w2 => e = .returned (.tuple #[]) ∧ OnceK w b w2 := by
  have HB := Lib.hid (repbuild_any b g c w (hrow.cell (j := 4) (by omega)) hg hs)
  have HROW := Lib.hid (fun (w1 : World) (hb : Below w.heap.size w w1) => hrow.kept (hb.block b hrow.lt))
  have hlt := hrow.lt
  clear hrow hs
  go_enter Tryz.func86, Tryz.ntmps86
  go_wp2_with fail
  refine HB.out.mono ?_
  rintro e w1 ⟨R, rfl, hR, hb⟩
  have HR := Lib.hid hR
  have HBE := Lib.hid hb
  have HRW := Lib.hid (HROW.out w1 hb)
  have r3 : w1.cell? ⟨b, 3, none⟩ = some .nilIface := HRW.out.cell (j := 3) (by omega)
  have r4 : w1.cell? ⟨b, 4, none⟩ = some (.slice (some ⟨g, 0, none⟩) 4 c) := HRW.out.cell (j := 4) (by omega)
  have z3 := HRW.out.free 3
  have z4 := HRW.out.free 4
  clear hR hb
  go_wp2
  go_end0
  refine ⟨rfl, ⟨R, ?_, ?_⟩, fun k hk hne => ?_, HBE.out.os, HBE.out.tape, HBE.out.output, ?_⟩
  · refine ((HRW.out.set (k := 3) (by omega) _).set (k := 4) (by omega) _).congr fun j hj => ?_
    match j, hj with
    | 0, _ => rfl
    | 1, _ => rfl
    | 2, _ => rfl
    | 3, _ => rfl
    | 4, _ => rfl
  · refine HR.out.kept fun k hk _ => ?_
    rw [heap_setCell_other _ _ _ _ (by show k ≠ b; omega), heap_setCell_other _ _ _ _ (by show k ≠ b; omega)]
  · rw [heap_setCell_other _ _ _ _ hne, heap_setCell_other _ _ _ _ hne]
    exact HBE.out.block k hk
  · rw [World.size_setCell, World.size_setCell]
    exact HBE.out.size
set_option maxRecDepth 100000 in
set_option maxHeartbeats 1000000 in
theorem replace_any (l : List UInt8) (b g c : Nat) (w0 w : World) (hl : l.length ≤ 1000000000) (hN : NewRepAt w0 w b g c) :
    Calls Tryz.prog 58 #[.pointer (some ⟨b, 0, none⟩), .string (ba l)] w fun e w' => e = .returned (.string (ba (escQ l))) ∧ Below w0.heap.size w0 w' := by
  have h0 : w.cell? ⟨b, 0, none⟩ = some (.int .u32 0) := hN.row.cell (j := 0) (by omega)
  have h1 : w.cell? ⟨b, 1, none⟩ = some (.int .i32 0) := hN.row.cell (j := 1) (by omega)
  have f0 := hN.row.free 0
  have f1 := hN.row.free 1
  have hblt := hN.row.lt
  have hW : RowV (w.setCell ⟨b, 1, none⟩ (.int .i32 1)) b 5 (repF 0 1 .nilIface (.slice (some ⟨g, 0, none⟩) 4 c)) := (hN.row.set (k := 1) (by omega) _).congr fun j hj => by
    match j, hj with
    | 0, _ => rfl
    | 1, _ => rfl
    | 2, _ => rfl
    | 3, _ => rfl
    | 4, _ => rfl
  have HBO := Lib.hid (buildOnce_any b g c (w.setCell ⟨b, 1, none⟩ (.int .i32 1)) hW (by rw [World.size_setCell]; exact hN.glt) fun j u hu => by
    have h := hN.strs j u hu
    rw [add_base] at h ⊢
    rw [World.cell?_setCell_other _ _ _ _ (by intro e; injection e with e; exact hN.ne e.symm)]
    exact h)
  have HDO := Lib.hid (onceDo_any b w (OnceK (w.setCell ⟨b, 1, none⟩ (.int .i32 1)) b) h0 h1 f0 f1 HBO.out fun w2 hk => by
    obtain ⟨R, hr, _⟩ := hk.ex
    exact ⟨hr.cell (j := 0) (by omega), hr.cell (j := 1) (by omega), hr.free 0, hr.free 1⟩)
  have HAFT := Lib.hid (show ∀ w2, OnceK (w.setCell ⟨b, 1, none⟩ (.int .i32 1)) b w2 → ∃ R, (onceW b w2).cell? ⟨b, 3, none⟩ = some (.iface 190 (.pointer (some ⟨R, 0, none⟩))) ∧ Repl w.heap.size (onceW b w2) R ∧ Below w0.heap.size w0 (onceW b w2) from fun w2 hk => by
    obtain ⟨R, hr, hR⟩ := hk.ex
    rw [World.size_setCell] at hR
    obtain ⟨q1, q2, q3, q4⟩ := hk.rest
    rw [World.size_setCell] at q4
    refine ⟨R, ?_, hR.kept fun k h5 h6 => ?_, hN.bel.trans ⟨q1, q2, q3, ?_, fun k h5 => ?_⟩⟩
    · have := ((hr.drew.set (k := 0) (by omega) (.int .u32 1)).set (k := 1) (by omega) (.int .i32 0)).cell (j := 3) (by omega)
      exact this
    · unfold onceW
      rw [heap_setCell_other _ _ _ _ (by show k ≠ b; omega), heap_setCell_other _ _ _ _ (by show k ≠ b; omega)]
      rfl
    · unfold onceW
      rw [World.size_setCell, World.size_setCell]
      exact q4
    · have h6 := hN.low
      have h7 := hN.bel.size
      unfold onceW
      rw [heap_setCell_other _ _ _ _ (by show k ≠ b; omega), heap_setCell_other _ _ _ _ (by show k ≠ b; omega)]
      refine (hk.bel k (by rw [World.size_setCell]; omega) (by omega)).trans ?_
      exact heap_setCell_other _ _ _ _ (by show k ≠ b; omega))
  have HSZ := Lib.hid hN.bel.size
  clear hW HBO hN h0 h1 f0 f1
  go_enter Tryz.func58, Tryz.ntmps58
  go_wp2_with fail
  refine HDO.out.mono ?_
  rintro e w' ⟨rfl, w2, hk, rfl⟩
  obtain ⟨R, c3, hR, hb⟩ := HAFT.out w2 hk
  generalize onceW b w2 = w3 at c3 hR hb ⊢
  have HR := Lib.hid (repl_any l _ R w3 hl hR)
  have HB := Lib.hid hb
  clear hk hR hb
  go_wp2_with fail
  refine HR.out.mono ?_
  rintro e w4 ⟨rfl, hb4⟩
  have HB4 := Lib.hid hb4
  clear hb4
  go_wp2
  go_ret
  exact ⟨rfl, HB.out.trans (HB4.out.mono HB.out.size)⟩
end Go.Proofs.YtnpgnohlcphfnaaGreatDoor
end
section
namespace Go.Proofs.YtnpgnohlcphfnaaGreatDoor
open Go.RowKit
set_option linter.unusedVariables false

theorem index_has (c : UInt8) : ∀ l : List UInt8, decide (0 ≤ Lib.indexByte l c) = l.contains c
  | [] => rfl
  | b :: l => by
    have ih := index_has c l
    have hg := Lib.indexByte_ge l c
    unfold Lib.indexByte
    rw [List.contains_cons]
    by_cases h : b = c
    · subst h
      simp
    · have h1 : (b == c) = false := by simpa using h
      have h2 : (c == b) = false := by simpa using fun e => h (Eq.symm e)
      rw [h1, h2]
      simp only [Bool.false_eq_true, if_false, Bool.false_or]
      rw [← ih]
      by_cases h3 : Lib.indexByte l c = -1
      · rw [h3]; rfl
      · have h4 : (Lib.indexByte l c == -1) = false := by simpa using h3
        rw [h4]
        simp only [Bool.false_eq_true, if_false]
        rw [decide_eq_decide]
        omega
theorem indexb_any (c : UInt8) (l : List UInt8) (w : World) : Calls Tryz.prog 67 #[.string (ba l), .int .u8 (c.toNat : Int)] w fun e w' => e = .returned (.int .i64 (Lib.indexByte l c)) ∧ w' = w := by
  refine (Tryz.strings_IndexByte _ (c.toNat : Int) w).mono ?_
  rintro e w' ⟨rfl, rfl⟩
  rw [u8_back]
  exact ⟨rfl, rfl⟩
def okB (low : UInt8) (but : List UInt8) (c : UInt8) : Bool := decide (low ≤ c ∧ c ≤ 126) && !but.contains c
theorem allB_eq (low : UInt8) (but l : List UInt8) : allB low but l = l.all (okB low but) := rfl
theorem all_snoc {f : UInt8 → Bool} {l : List UInt8} {k : Nat} (hk : k < l.length) (h : (l.take k).all f = true) : (l.take (k + 1)).all f = f l[k] := by
  rw [List.take_succ_eq_append_getElem hk, List.all_append, h]
  simp
theorem all_stop {f : UInt8 → Bool} {l : List UInt8} {k : Nat} (hk : k < l.length) (h : f l[k] = false) : l.all f = false := by
  rw [← Bool.not_eq_true, List.all_eq_true]
  intro h2
  rw [h2 _ (List.getElem_mem hk)] at h
  cases h
theorem okB_low {low c : UInt8} {but : List UInt8} (h : (c.toNat : Int) < (low.toNat : Int)) : okB low but c = false := by
  unfold okB
  rw [decide_eq_false]
  · rfl
  · rintro ⟨h1, _⟩
    have := UInt8.le_iff_toNat_le.1 h1
    omega
theorem okB_high {low c : UInt8} {but : List UInt8} (h : (126 : Int) < (c.toNat : Int)) : okB low but c = false := by
  unfold okB
  rw [decide_eq_false]
  · rfl
  · rintro ⟨_, h1⟩
    have := UInt8.le_iff_toNat_le.1 h1
    simp at this
    omega
theorem okB_mid {low c : UInt8} {but : List UInt8} (h : ¬ (c.toNat : Int) < (low.toNat : Int)) (h2 : ¬ (126 : Int) < (c.toNat : Int)) : okB low but c = !but.contains c := by
  unfold okB
  rw [decide_eq_true]
  · rfl
  · refine ⟨UInt8.le_iff_toNat_le.2 (by omega), UInt8.le_iff_toNat_le.2 ?_⟩
    show c.toNat ≤ 126
    omega
set_option maxRecDepth 100000 in
set_option maxHeartbeats 4000000 in
theorem all_any (l : List UInt8) (low : UInt8) (but : List UInt8) (w : World) (hl : l.length ≤ 1000000000) :
    Calls Tryz.prog 75 #[.string (ba l), .int .u8 (low.toNat : Int), .string (ba but)] w fun e w' => e = .returned (.bool (allB low but l)) ∧ w' = w := by
  have HAB := Lib.hid (allB_eq low but l)
  have HLOW := Lib.hid (fun c => okB_low (low := low) (c := c) (but := but))
  have HHIGH := Lib.hid (fun c => okB_high (low := low) (c := c) (but := but))
  have HMID := Lib.hid (fun c => okB_mid (low := low) (c := c) (but := but))
  have HZL := Lib.hid low.toNat_lt
  obtain ⟨z, hz⟩ : ∃ z : Int, (low.toNat : Int) = z := ⟨_, rfl⟩
  simp only [hz] at HLOW HMID
  rw [hz]
  clear hz
  obtain ⟨n, hn⟩ : ∃ n, l.length = n := ⟨_, rfl⟩
  have HL := Lib.hid hn
  obtain ⟨s, hs⟩ : ∃ s, ba l = s := ⟨_, rfl⟩
  have HS := Lib.hid hs
  have HZ := Lib.hid (show s.size = n by rw [← hs, ba_size, hn])
  have hsz : (s.size : Int) = n := by rw [HZ.out]
  rw [hs]
  rw [hn] at hl
  clear hs hn
  go_enter Tryz.func75, Tryz.ntmps75
  go_wp2
  go_loop [10] (fun i => ∃ k : Nat, k ≤ n ∧ i = .int .i64 (k : Int) ∧ Hid ((l.take k).all (okB low but) = true)) (fun i => n - (intOf i).toNat)
  case atStart => exact ⟨0, Nat.zero_le _, rfl, Lib.hid rfl⟩
  case round =>
    obtain ⟨k, hk, rfl, HR⟩ := hrel
    by_cases hlt : k < n
    · have hk2 : (k : Int) < (n : Int) := by omega
      have hk0 : (0 : Int) ≤ (k : Int) := by omega
      have hks : k < s.size := by rw [HZ.out]; omega
      have hkl : k < l.length := by rw [HL.out]; omega
      have hget : s[k] = l[k] := by
        have h := HS.out
        subst h
        rfl
      have HST := Lib.hid (all_snoc hkl HR.out)
      have HIT := Lib.hid (all_stop (f := okB low but) hkl)
      obtain ⟨c, hc⟩ : ∃ c, l[k] = c := ⟨_, rfl⟩
      rw [hc] at hget HST HIT
      obtain ⟨x, hx⟩ : ∃ x : Int, (c.toNat : Int) = x := ⟨_, rfl⟩
      have hgi : ((s[k]).toNat : Int) = x := by rw [hget]; exact hx
      have HX := Lib.hid hx
      have hx0 : 0 ≤ x := by omega
      have hx1 : x ≤ 255 := by have := c.toNat_lt; omega
      clear hc hkl hget hx
      have HLO := Lib.hid (HLOW.out c)
      have HHI := Lib.hid (HHIGH.out c)
      have HMI := Lib.hid (HMID.out c)
      have HHAS := indexb_any c but w
      have HWI := index_has c but
      rw [HX.out] at HLO HHI HMI HHAS
      obtain ⟨b2, hb2⟩ : ∃ b, but.contains c = b := ⟨_, rfl⟩
      obtain ⟨v, hv⟩ : ∃ v, Lib.indexByte but c = v := ⟨_, rfl⟩
      rw [hb2] at HWI HMI
      rw [hv] at HHAS HWI
      have HA := Lib.hid HHAS
      clear hb2 hv HHAS
      by_cases h1 : x < z
      · have HV := Lib.hid (HIT.out (HLO.out h1))
        clear HWI
        go_wp2
        go_ret
        exact ⟨by rw [HAB.out, HV.out]; rfl, rfl⟩
      · by_cases h2 : 126 < x
        · have HV := Lib.hid (HIT.out (HHI.out h2))
          clear HWI
          go_wp2
          go_ret
          exact ⟨by rw [HAB.out, HV.out]; rfl, rfl⟩
        · have HM := Lib.hid (HMI.out (by omega) (by omega))
          cases b2
          · have hvn : decide (0 ≤ v) = false := HWI
            have HV := Lib.hid (show (l.take (k + 1)).all (okB low but) = true by rw [HST.out, HM.out]; rfl)
            clear HWI
            go_wp2_with fail
            refine HA.out.mono ?_
            rintro e w' ⟨rfl, rfl⟩
            go_wp2
            go_round
            case rel => exact ⟨k + 1, by omega, by go_num, HV⟩
            case measure => simp [intOf] <;> omega
          · have hvn : decide (0 ≤ v) = true := HWI
            have HV := Lib.hid (HIT.out HM.out)
            clear HWI
            go_wp2_with fail
            refine HA.out.mono ?_
            rintro e w' ⟨rfl, rfl⟩
            go_wp2
            go_ret
            exact ⟨by rw [HAB.out, HV.out]; rfl, rfl⟩
    · obtain rfl : k = n := by omega
      have HV := Lib.hid (show allB low but l = true by
        rw [HAB.out]
        have := HR.out
        rw [List.take_of_length_le (by rw [HL.out]; exact Nat.le_refl _)] at this
        exact this)
      go_wp2
      go_ret
      exact ⟨by rw [HV.out]; rfl, rfl⟩
end Go.Proofs.YtnpgnohlcphfnaaGreatDoor
end
