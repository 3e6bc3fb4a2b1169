/- Layer 2: the contracts of the program's encoder. A row of bytes of the call's own: append of one byte, and its string. Layer 2: the contracts of the reference's encoder. Layer 2, plain: lengths of what the reader gives. Layer 33, plain: postings lists, their form and their encoding. Layer 33, plain: postings lists read back. Layer 33: contracts of the program's rises and step. -/
import Derived.Laws.IdiomStrings
import Derived.Laws.BytesArg
import Derived.Lib.UnsafeStr
import Derived.Test.YtfinpehbpcckaaaGreatDoorM02
import Derived.Test.YtfinpehbpcckaaaGreatDoorM01
section
namespace Go.Proofs.YtfinpehbpcckaaaGreatDoor
open Go.RowKit
set_option linter.unusedVariables false

/-- The call hands back a string; what was there stands. -/
def StrPost (w : World) (l : List UInt8) (e : Ending) (w' : World) : Prop := e = .returned (.string (ba l)) ∧ Below w.heap.size w w'
theorem u8_nat (k : Nat) (h : k < 256) : (((UInt8.ofNat k).toNat : Nat) : Int) = (k : Int) := by
  rw [UInt8.toNat_ofNat']; omega

set_option maxRecDepth 100000 in
set_option maxHeartbeats 1000000 in
theorem num_nat (n : Nat) (w : World) (hn : n < 9223372036854775808) : Calls Tryz.prog 48 #[.int .i64 (n : Int)] w (StrPost w (vnum n)) := by
  go_enter Tryz.func48, Tryz.ntmps48
  go_wp2
  go_loopw [0] (fun m wr => ∃ k : Nat, m = .int .i64 (k : Int) ∧ k < 9223372036854775808 ∧ Hid (∃ pre, vnum n = pre ++ vnum k ∧ Bld wr w.heap.size w.heap.size pre ∧ Below w.heap.size w wr)) (fun m _ => (intOf m).toNat)
  case atStart => exact ⟨n, rfl, hn, [], rfl, bld_new w, (Below.refl _ _).alloc (Nat.le_refl _) _⟩
  case round =>
    obtain ⟨k, rfl, hk, HB⟩ := hrel
    obtain ⟨pre, hpre, hbld, hbel⟩ := HB.out
    have HPRE := Lib.hid hpre
    have HBLD := Lib.hid hbld
    have HBEL := Lib.hid hbel
    have hlp : pre.length + 1 ≤ 140737488355328 := by
      have h1 := vnum_len 9 n (by have : (128 : Nat) ^ 9 = 9223372036854775808 := rfl; omega) (by omega)
      rw [hpre, List.length_append] at h1
      omega
    have hsz := hbel.size
    have HLP := Lib.hid hlp
    clear HB hpre hbld hbel hlp
    by_cases hge : 128 ≤ k
    · have hge2 : (128 : Int) ≤ (k : Int) := by omega
      have hc : (k : Int) % 128 + 128 = (((UInt8.ofNat (k % 128 + 128)).toNat : Nat) : Int) := by rw [u8_nat _ (by omega)]; omega
      have HC := Lib.hid hc
      clear hc
      go_wp2_with fail
      rw [HC.out]
      refine (write_byte _ _ _ (UInt8.ofNat (k % 128 + 128)) wr HBLD.out HLP.out hsz).mono ?_
      rintro e w1 ⟨rfl, h1⟩
      have H1 := Lib.hid h1
      clear h1
      go_wp2
      go_roundw
      case rel =>
        refine ⟨k / 128, by go_num, by omega, _, ?_, H1.out.bld, HBEL.out.trans H1.out.bel⟩
        rw [HPRE.out, vnum_ge hge, List.append_assoc]; rfl
      case measure => simp [intOf] <;> omega
    · have hlt2 : ¬ (128 : Int) ≤ (k : Int) := by omega
      have hk0 : (0 : Int) ≤ (k : Int) := by omega
      have hk1 : (k : Int) ≤ 255 := by omega
      have hc : (k : Int) = (((UInt8.ofNat k).toNat : Nat) : Int) := by rw [u8_nat _ (by omega)]
      have HC := Lib.hid hc
      clear hc
      go_wp2_with fail
      rw [HC.out]
      refine (write_byte _ _ _ (UInt8.ofNat k) wr HBLD.out HLP.out hsz).mono ?_
      rintro e w1 ⟨rfl, h1⟩
      have hw : Bld w1 w.heap.size w.heap.size (vnum n) ∧ Below w.heap.size w w1 := ⟨by rw [HPRE.out, vnum_lt (by omega)]; exact h1.bld, HBEL.out.trans h1.bel⟩
      have HW := Lib.hid hw
      have hs1 := hw.2.size
      clear h1 hw
      go_wp2_with fail
      refine (bld_string _ _ _ w1 HW.out.1 hs1).mono ?_
      rintro e w2 ⟨rfl, h2⟩
      have H2 := Lib.hid (HW.out.2.trans h2.bel)
      clear h2
      go_wp2
      go_ret
      exact ⟨rfl, H2.out⟩

theorem num_neg (n : Int) (w : World) (h : n < 0) : Calls Tryz.prog 48 #[.int .i64 n] w (StrPost w []) := by
  have h1 : ¬ (128 : Int) ≤ n := by omega
  have h2 : ¬ (0 : Int) ≤ n := by omega
  have HB := Lib.hid (bld_new w)
  go_enter Tryz.func48, Tryz.ntmps48
  go_wp2
  go_loopw [0] (fun m wr => m = .int .i64 n ∧ Hid (Bld wr w.heap.size w.heap.size [] ∧ Below w.heap.size w wr)) (fun m _ => 0)
  case atStart => exact ⟨rfl, HB.out, (Below.refl _ _).alloc (Nat.le_refl _) _⟩
  case round =>
    obtain ⟨rfl, HR⟩ := hrel
    have hsz := HR.out.2.size
    go_wp2_with fail
    refine (bld_string _ _ _ wr HR.out.1 hsz).mono ?_
    rintro e w2 ⟨rfl, h2⟩
    have H2 := Lib.hid (HR.out.2.trans h2.bel)
    clear h2
    go_wp2
    go_ret
    exact ⟨rfl, H2.out⟩
theorem num_any (n : Int) (w : World) (h : n ≤ 9223372036854775807) : Calls Tryz.prog 48 #[.int .i64 n] w (StrPost w (vint n)) := by
  by_cases hn : n < 0
  · rw [vint_neg hn]; exact num_neg n w hn
  · obtain ⟨k, rfl⟩ : ∃ k : Nat, n = (k : Int) := ⟨n.toNat, by omega⟩
    rw [vint_nat]
    exact num_nat k w (by omega)

theorem text_any (l : List UInt8) (w : World) (h : l.length ≤ 70368744177664) : Calls Tryz.prog 49 #[.string (ba l)] w (StrPost w (vtext l)) := by
  obtain ⟨s, hs⟩ : ∃ x, ba l = x := ⟨_, rfl⟩
  have hsz : s.size = l.length := by rw [← hs, ba_size]
  rw [hs]
  have hb : s.size < 9223372036854775808 := by omega
  have HS := Lib.hid hs
  have HSZ := Lib.hid hsz
  clear hs hsz
  go_enter Tryz.func49, Tryz.ntmps49
  go_wp2_with fail
  refine (num_nat s.size w hb).mono ?_
  rintro e w1 ⟨rfl, h1⟩
  have H1 := Lib.hid h1
  clear h1
  have hcat : ¬ 9223372036854775807 < (ba (vnum s.size)).size + s.size := by
    rw [ba_size]
    have := vnum_len 9 s.size (by have : (128 : Nat) ^ 9 = 9223372036854775808 := rfl; omega) (by omega)
    have := HSZ.out
    omega
  go_wp2
  go_ret
  refine ⟨?_, H1.out⟩
  unfold vtext
  rw [← HSZ.out, ← ba_append, HS.out]
  rfl

theorem take_flat_vint {l : List Int} {k : Nat} (h : k < l.length) : (l.take (k + 1)).flatMap vint = (l.take k).flatMap vint ++ vint (gi l k) := by
  rw [List.take_succ_eq_append_getElem h, List.flatMap_append, gi_get h]; simp
theorem take_vint_len {l : List Int} (h : I64s l) (k : Nat) : ((l.take k).flatMap vint).length ≤ 9 * l.length := by
  have h1 := vints_len (l.take k) fun x hx => (h x (List.mem_of_mem_take hx)).2
  rw [List.length_take] at h1
  omega
set_option maxRecDepth 100000 in
set_option maxHeartbeats 1000000 in
theorem encode_ints (A : Option Addr) (n c : Nat) (l : List Int) (w : World) (h : Ints w w.heap.size A n l) (hn : n ≤ 1000000000) :
    Calls Tryz.prog 98 #[.slice A n c, .func (.func 48) #[] #[]] w (StrPost w (vints l)) := by
  have H := Lib.hid h
  have HL := Lib.hid h.len
  clear h
  go_enter Tryz.func98, Tryz.ntmps98
  go_wp2_with fail
  refine (num_nat n _ (by omega)).mono ?_
  rintro e w1 ⟨rfl, h1⟩
  have hs1 : w.heap.size < w1.heap.size := by have := h1.size; simp at this; omega
  have hb1 : Bld w1 w.heap.size w.heap.size [] := (bld_new w).below h1
  have HB1 := Lib.hid hb1
  have HBEL1 := Lib.hid (((Below.refl w.heap.size w).alloc (Nat.le_refl _) (.cells #[.pointer none, .slice none 0 0] 78)).trans (h1.mono (by simp)))
  have hvn := vnum_len 9 n (by have : (128 : Nat) ^ 9 = 9223372036854775808 := rfl; omega) (by omega)
  clear h1 hb1
  go_wp2_with fail
  refine (write_string w.heap.size w.heap.size [] (vnum n) w1 HB1.out (by simp; omega) (by omega)).mono ?_
  rintro e w2 ⟨rfl, h2⟩
  have H2 := Lib.hid (And.intro h2.bld (HBEL1.out.trans h2.bel))
  clear h2 hs1
  go_wp2
  go_loopw [17] (fun i wr => ∃ k : Nat, k ≤ n ∧ i = .int .i64 (k : Int) ∧ Hid (Bld wr w.heap.size w.heap.size (vnum n ++ (l.take k).flatMap vint) ∧ Below w.heap.size w wr)) (fun i _ => n - (intOf i).toNat)
  case atStart => exact ⟨0, Nat.zero_le _, rfl, by simpa using H2.out.1, H2.out.2⟩
  case round =>
    obtain ⟨k, hk, rfl, HR⟩ := hrel
    have hsz := HR.out.2.size
    by_cases hlt : k < n
    · have hk2 : (k : Int) < n := by omega
      obtain ⟨ad, rfl, hbl, hc⟩ := (H.out.below HR.out.2).at_ hlt
      have hbd := H.out.bounds k
      have hlen := take_vint_len H.out.2.1 k
      rw [HL.out] at hlen
      go_wp2_with fail
      refine (num_any (gi l k) wr hbd.2).mono ?_
      rintro e w3 ⟨rfl, h3⟩
      have hs3 := h3.size
      have HB3 := Lib.hid (HR.out.1.below h3)
      have HBEL3 := Lib.hid (HR.out.2.trans (h3.mono hsz))
      have hvi := vint_len (gi l k) hbd.2
      clear h3 hc
      go_wp2_with fail
      refine (write_string _ _ _ (vint (gi l k)) w3 HB3.out (by simp only [List.length_append]; omega) (by omega)).mono ?_
      rintro e w4 ⟨rfl, h4⟩
      have H4 := Lib.hid h4
      clear h4
      go_wp2
      go_roundw
      case rel =>
        refine ⟨k + 1, by omega, by go_num, ?_, HBEL3.out.trans H4.out.bel⟩
        rw [take_flat_vint (by rw [HL.out]; exact hlt), ← List.append_assoc]
        exact H4.out.bld
      case measure => simp [intOf] <;> omega
    · obtain rfl : k = n := by omega
      have HFIN := Lib.hid (show Bld wr w.heap.size w.heap.size (vints l) by
        have := HR.out.1
        rw [List.take_of_length_le (by rw [HL.out]; exact Nat.le_refl _)] at this
        unfold vints; rw [HL.out]; exact this)
      go_wp2_with fail
      refine (bld_string _ _ _ wr HFIN.out hsz).mono ?_
      rintro e w5 ⟨rfl, h5⟩
      have H5 := Lib.hid (HR.out.2.trans h5.bel)
      clear h5
      go_wp2
      go_ret
      exact ⟨rfl, H5.out⟩
theorem nums_any (A : Option Addr) (n c : Nat) (l : List Int) (w : World) (h : Ints w w.heap.size A n l) (hn : n ≤ 1000000000) :
    Calls Tryz.prog 47 #[.slice A n c] w (StrPost w (vints l)) := by
  have H := Lib.hid h
  clear h
  go_enter Tryz.func47, Tryz.ntmps47
  go_wp2_with fail
  refine (encode_ints A n c l w H.out hn).mono ?_
  rintro e w1 ⟨rfl, h1⟩
  have H1 := Lib.hid h1
  clear h1
  go_wp2
  go_ret
  exact ⟨rfl, H1.out⟩
end Go.Proofs.YtfinpehbpcckaaaGreatDoor
end
section
namespace Go.Proofs.YtfinpehbpcckaaaGreatDoor
open Go.RowKit
set_option linter.unusedVariables false

theorem info_u8 : (Tryz.prog.info? 5).map (fun i => (i.zero, i.size, i.bytes)) = some (some (.int .u8 0), 1, 1) := by kernel_rfl
/-- v owns the bytes l, in memory from B on. -/
def OwnBytes (w : World) (B : Nat) (v : Value) (l : List UInt8) : Prop := w.ownsRow B 5 1 v l.length (Lib.byteCells l)
theorem OwnBytes.nil_ (w : World) (B : Nat) : OwnBytes w B (.slice none 0 0) [] := World.ownsRow_nil _ _ _ _
theorem OwnBytes.block {w w' : World} {B : Nat} {v : Value} {l : List UInt8} (h : OwnBytes w B v l) (hb : ∀ b, v.ownBlock = some b → w'.heap[b]? = w.heap[b]?) : OwnBytes w' B v l := ownsRow_block h hb
theorem wpList_pushByte {ops : Array Oper} {rest : List Oper} {o : Oper} {a : Act} {W : World} {Q : Exit → Act → World → Prop} {B : Nat} {y : UInt8} {u : Int} {v : Value} {l : List UInt8} (hown : OwnBytes W B v l) (hB : B ≤ W.heap.size)
    (hu : u = (y.toNat : Int)) (hlen : l.length < 1099511627776) (hgd : o.guard = none) (s x : Operand) (c : Nat)
    (ho : o.op = .call { callee := .builtin .append, args := #[s, x], argTypes := #[76, 76] })
    (hs : a.eval s = v) (hx : a.eval x = .slice (some ⟨W.heap.size, 0, none⟩) 1 c)
    (h : ∀ v' w', OwnBytes w' B v' (l ++ [y]) → W.grownBy w' v.ownBlock → (v'.ownBlock = v.ownBlock ∨ ∃ k, v'.ownBlock = some k ∧ W.heap.size ≤ k) → wpList Tryz.prog ops Q rest (a.put o.dst v') w') :
    wpList Tryz.prog ops Q (o :: rest) a (W.alloc (.cells #[.int .u8 u] 5)) := by
  obtain ⟨i0, hi, hz0, hz1, hz2⟩ := info_parts info_u8
  subst hu
  have hl : (Lib.byteCells l).length = l.length := Lib.byteCells_length l
  refine wpList_append_own_at _ hgd s x 76 ho B 5 i0 _ 1 1 Tryz.underlying76 hi hz0 hz1 hz2 rfl (by omega) v l.length (Lib.byteCells l) hs (World.ownsRow.alloc hown _) ⟨W.heap.size, 0, none⟩ 1 c [.int .u8 y.toNat] hx rfl (cell_one_new _ _ _) ?_ (by simp only [maxLen]; omega) (by omega) (by simp; omega) ?_
  · intro u hu; simp at hu; subst hu; rfl
  · intro v' w' h1 h2 _ h4
    refine h v' w' ?_ ?_ ?_
    · unfold OwnBytes
      rw [Lib.byteCells_append, List.length_append]
      exact h1
    · have h5 := World.grownBy_alloc W (.cells #[.int .u8 y.toNat] 5) v.ownBlock
      exact ⟨h2.os.trans h5.os, h2.tape.trans h5.tape, h2.output.trans h5.output, Nat.le_trans h5.size h2.size, fun k hk hne => (h2.block k (by simp; omega) hne).trans (h5.block k hk hne)⟩
    · rcases h4 with h4 | h4
      · exact .inl h4
      · exact .inr ⟨_, h4, by simp⟩
/-- 'string(b)'. -/
theorem OwnBytes.str {w : World} {B : Nat} {v : Value} {l : List UInt8} (h : OwnBytes w B v l) : (convert 76 9 v).run Tryz.prog w = .ok (.string (ba l)) w := by
  rcases h.2 with ⟨rfl, h0⟩ | ⟨g, cap, cur, rfl, _⟩
  · have : l = [] := List.eq_nil_of_length_eq_zero h0
    subst this
    exact run_convert_bytes_nil (P := Tryz.prog) (w := w) 76 5 Tryz.underlying76 Tryz.underlying5 0 0 9 Tryz.underlying9
  · exact run_convert_bytes_back w 76 9 5 ⟨g, 0, none⟩ cap l Tryz.underlying76 Tryz.underlying5 Tryz.underlying9 fun j hj => h.cells (g := g) rfl j _ (by simp [Lib.byteCells, hj])
end Go.Proofs.YtfinpehbpcckaaaGreatDoor
end
section
namespace Go.Proofs.YtfinpehbpcckaaaGreatDoor
open Go.RowKit
set_option linter.unusedVariables false

theorem rnum_neg (n : Int) (w : World) (h : n < 0) : Calls Tryz.prog 52 #[.int .i64 n] w (StrPost w []) := by
  go_enter Tryz.func52, Tryz.ntmps52
  go_wp2
  go_ret
  exact ⟨rfl, Below.refl _ _⟩
set_option maxRecDepth 100000 in
set_option maxHeartbeats 1000000 in
theorem rnum_nat (n : Nat) (w : World) (hn : n < 9223372036854775808) : Calls Tryz.prog 52 #[.int .i64 (n : Int)] w (StrPost w (vnum n)) := by
  have h0 : ¬ (n : Int) < 0 := by omega
  go_enter Tryz.func52, Tryz.ntmps52
  go_wp2
  go_loopw [0, 3] (fun m v wr => ∃ k : Nat, m = .int .i64 (k : Int) ∧ k < 9223372036854775808 ∧ Hid (∃ pre, vnum n = pre ++ vnum k ∧ OwnBytes wr w.heap.size v pre ∧ Below w.heap.size w wr)) (fun m _ _ => (intOf m).toNat)
  case atStart => exact ⟨n, rfl, hn, [], rfl, OwnBytes.nil_ _ _, Below.refl _ _⟩
  case round =>
    obtain ⟨k, rfl, hk, HB⟩ := hrel
    obtain ⟨pre, hpre, hown, hbel⟩ := HB.out
    have HPRE := Lib.hid hpre
    have HOWN := Lib.hid hown
    have HBEL := Lib.hid hbel
    have hlp : pre.length < 1099511627776 := by
      have h1 := vnum_len 9 n (by have : (128 : Nat) ^ 9 = 9223372036854775808 := rfl; omega) (by omega)
      rw [hpre, List.length_append] at h1
      omega
    have hsz := hbel.size
    have HLP := Lib.hid hlp
    clear HB hpre hown hbel hlp
    by_cases hge : 128 ≤ k
    · have hge2 : (128 : Int) ≤ (k : Int) := by omega
      have hc : (k : Int) % 128 + 128 = (((UInt8.ofNat (k % 128 + 128)).toNat : Nat) : Int) := by rw [u8_nat _ (by omega)]; omega
      have HC := Lib.hid hc
      clear hc
      go_wp2_with (at_builtin; go_must (refine wpList_pushByte (y := UInt8.ofNat (k % 128 + 128)) HOWN.out hsz HC.out HLP.out rfl (.tmp 8) (.tmp 13) 1 rfl rfl rfl ?_); intro v' w4 hown1 hg1 hat1; have H1 := Lib.hid hown1; have H2 := Lib.hid hg1; clear hown1 hg1 hat1)
      go_roundw
      case rel =>
        refine ⟨k / 128, by go_num, by omega, _, ?_, H1.out, HBEL.out.grown H2.out hsz fun g e => (HOWN.out.lt g e).1⟩
        rw [HPRE.out, vnum_ge hge, List.append_assoc]; rfl
      case measure => simp [intOf] <;> omega
    · have hlt2 : ¬ (128 : Int) ≤ (k : Int) := by omega
      have hk0 : (0 : Int) ≤ (k : Int) := by omega
      have hk1 : (k : Int) ≤ 255 := by omega
      have hc : (k : Int) = (((UInt8.ofNat k).toNat : Nat) : Int) := by rw [u8_nat _ (by omega)]
      have HC := Lib.hid hc
      clear hc
      go_wp2_with (at_builtin; go_must (refine wpList_pushByte (y := UInt8.ofNat k) HOWN.out hsz HC.out HLP.out rfl (.tmp 17) (.tmp 20) 1 rfl rfl rfl ?_); intro v' w4 hown1 hg1 hat1; have H1 := Lib.hid hown1; have H2 := Lib.hid hg1; have hstr := hown1.str; clear hown1 hg1 hat1)
      have hbel2 := HBEL.out.grown H2.out hsz fun g e => (HOWN.out.lt g e).1
      have HB2 := Lib.hid hbel2
      clear hbel2
      go_ret
      refine ⟨?_, HB2.out⟩
      rw [HPRE.out, vnum_lt (by omega)]
      rfl
theorem rnum_any (n : Int) (w : World) (h : n ≤ 9223372036854775807) : Calls Tryz.prog 52 #[.int .i64 n] w (StrPost w (vint n)) := by
  by_cases hn : n < 0
  · rw [vint_neg hn]; exact rnum_neg n w hn
  · obtain ⟨k, rfl⟩ : ∃ k : Nat, n = (k : Int) := ⟨n.toNat, by omega⟩
    rw [vint_nat]
    exact rnum_nat k w (by omega)

theorem rtext_any (l : List UInt8) (w : World) (h : l.length ≤ 70368744177664) : Calls Tryz.prog 53 #[.string (ba l)] w (StrPost w (vtext l)) := by
  obtain ⟨s, hs⟩ : ∃ x, ba l = x := ⟨_, rfl⟩
  have hsz : s.size = l.length := by rw [← hs, ba_size]
  rw [hs]
  have hb : s.size < 9223372036854775808 := by omega
  have HS := Lib.hid hs
  have HSZ := Lib.hid hsz
  clear hs hsz
  go_enter Tryz.func53, Tryz.ntmps53
  go_wp2_with fail
  refine (rnum_nat s.size w hb).mono ?_
  rintro e w1 ⟨rfl, h1⟩
  have H1 := Lib.hid h1
  clear h1
  have hcat : ¬ 9223372036854775807 < (ba (vnum s.size)).size + s.size := by
    rw [ba_size]
    have := vnum_len 9 s.size (by have : (128 : Nat) ^ 9 = 9223372036854775808 := rfl; omega) (by omega)
    have := HSZ.out
    omega
  go_wp2
  go_ret
  refine ⟨?_, H1.out⟩
  unfold vtext
  rw [← HSZ.out, ← ba_append, HS.out]
  rfl


set_option maxRecDepth 100000 in
set_option maxHeartbeats 1000000 in
theorem rnums_any (A : Option Addr) (n c : Nat) (l : List Int) (w : World) (h : Ints w w.heap.size A n l) (hn : n ≤ 1000000000) :
    Calls Tryz.prog 51 #[.slice A n c] w (StrPost w (vints l)) := by
  have H := Lib.hid h
  have HL := Lib.hid h.len
  clear h
  go_enter Tryz.func51, Tryz.ntmps51
  go_wp2_with fail
  refine (rnum_nat n w (by omega)).mono ?_
  rintro e w1 ⟨rfl, h1⟩
  have H1 := Lib.hid h1
  have hvn := vnum_len 9 n (by have : (128 : Nat) ^ 9 = 9223372036854775808 := rfl; omega) (by omega)
  clear h1
  go_wp2
  go_loopw [3, 4] (fun v i wr => ∃ k : Nat, k ≤ n ∧ i = .int .i64 (k : Int) ∧ v = .string (ba (vnum n ++ (l.take k).flatMap vint)) ∧ Hid (Below w.heap.size w wr)) (fun _ i _ => n - (intOf i).toNat)
  case atStart => exact ⟨0, Nat.zero_le _, rfl, by simp, H1.out⟩
  case round =>
    obtain ⟨k, hk, rfl, rfl, HR⟩ := hrel
    have hsz := HR.out.size
    by_cases hlt : k < n
    · have hk2 : (k : Int) < n := by omega
      obtain ⟨ad, rfl, hbl, hc⟩ := (H.out.below HR.out).at_ hlt
      have hbd := H.out.bounds k
      have hlen := take_vint_len H.out.2.1 k
      rw [HL.out] at hlen
      go_wp2_with fail
      refine (rnum_any (gi l k) wr hbd.2).mono ?_
      rintro e w3 ⟨rfl, h3⟩
      have HBEL3 := Lib.hid (HR.out.trans (h3.mono hsz))
      have hvi := vint_len (gi l k) hbd.2
      have hcat : ¬ 9223372036854775807 < (ba (vnum n ++ (l.take k).flatMap vint)).size + (ba (vint (gi l k))).size := by
        rw [ba_size, ba_size, List.length_append]
        omega
      clear h3 hc
      go_wp2
      go_roundw
      case rel =>
        refine ⟨k + 1, by omega, by go_num, ?_, HBEL3.out⟩
        rw [take_flat_vint (by rw [HL.out]; exact hlt), ← List.append_assoc, ba_append]
      case measure => simp [intOf] <;> omega
    · obtain rfl : k = n := by omega
      go_wp2
      go_ret
      refine ⟨?_, HR.out⟩
      rw [List.take_of_length_le (by rw [HL.out]; exact Nat.le_refl _)]
      unfold vints; rw [HL.out]; rfl
theorem ret_bool {a b : Bool} (h : a = b) : Ending.returned (.bool a) = .returned (.bool b) := by rw [h]
set_option maxRecDepth 100000 in
theorem same_ints (A B : Option Addr) (n m c d : Nat) (a b : List Int) (w : World) (ha : Ints w w.heap.size A n a) (hb : Ints w w.heap.size B m b) (hn : n ≤ 1000000000000) :
    Calls Tryz.prog 45 #[.slice A n c, .slice B m d] w fun e w' => e = .returned (.bool (decide (a = b))) ∧ ∃ k, w' = w.drewN k := by
  by_cases h : n = m
  · subst h
    have HA := Lib.hid ha
    have HB := Lib.hid hb
    clear ha hb
    have hd : ((n : Int) != (n : Int)) = false := by simp
    go_enter Tryz.func45, Tryz.ntmps45
    go_wp2
    go_loopw [5] (fun i wr => ∃ k : Nat, k ≤ n ∧ i = .int .i64 (k : Int) ∧ Hid (∀ t, t < k → gi a t = gi b t) ∧ Hid (∃ q, wr = w.drewN q)) (fun i _ => n - (intOf i).toNat)
    case atStart => exact ⟨0, Nat.zero_le _, rfl, (fun t ht => absurd ht (by omega)), 0, rfl⟩
    case round =>
      obtain ⟨k, hk, rfl, HT, HW⟩ := hrel
      by_cases hlt : k < n
      · have hk2 : (k : Int) < n := by omega
        have ha1 : Ints wr w.heap.size A n a := by obtain ⟨q, rfl⟩ := HW.out; exact HA.out
        have hb1 : Ints wr w.heap.size B n b := by obtain ⟨q, rfl⟩ := HW.out; exact HB.out
        obtain ⟨ad, rfl, _, c1⟩ := ha1.at_ hlt
        obtain ⟨bd, rfl, _, c2⟩ := hb1.at_ hlt
        clear ha1 hb1
        by_cases he : gi a k = gi b k
        · have HE := Lib.hid he
          have hne : (gi a k != gi b k) = false := by simpa using he
          clear he
          go_wp2
          go_quiet (fail)
          clear hne
          go_wp2
          go_roundw
          case rel =>
            refine ⟨k + 1, by omega, by go_num, fun t ht => ?_, by obtain ⟨q, rfl⟩ := HW.out; exact ⟨_, World.drewN_drewN w q nq⟩⟩
            by_cases e : t = k
            · subst e; exact HE.out
            · exact HT.out t (by omega)
          case measure => simp [intOf] <;> omega
        · have HE := Lib.hid he
          have hne : (gi a k != gi b k) = true := by simpa using he
          clear he
          go_wp2
          go_quiet (fail)
          clear hne
          go_wp2
          go_ret
          exact ⟨ret_bool (decide_eq_false fun e => HE.out (by rw [e])).symm, by obtain ⟨q, rfl⟩ := HW.out; exact ⟨_, World.drewN_drewN w q nq⟩⟩
      · obtain rfl : k = n := by omega
        go_wp2
        go_ret
        refine ⟨ret_bool (decide_eq_true ?_).symm, HW.out⟩
        refine List.ext_getElem (HA.out.len.trans HB.out.len.symm) fun t h1 h2 => ?_
        have := HT.out t (by rw [← HA.out.len]; exact h1)
        rw [gi_get h1, gi_get h2] at this
        exact this
  · have hd : ((n : Int) != (m : Int)) = true := by simp; omega
    have hne : ¬ a = b := fun e => h (by rw [← ha.len, ← hb.len, e])
    clear ha hb h
    go_enter Tryz.func45, Tryz.ntmps45
    go_wp2
    go_ret
    exact ⟨ret_bool (decide_eq_false hne).symm, 0, rfl⟩
end Go.Proofs.YtfinpehbpcckaaaGreatDoor
end
section
namespace Go.Proofs.YtfinpehbpcckaaaGreatDoor
set_option linter.unusedVariables false
theorem Rd.num_bad {r : Rd} (h : r.bad = false) (hb : r.num.2.bad = true) : r.num.2 = Rd.fails := by
  unfold Rd.num at hb ⊢
  cases e : rnum r.s with
  | none => rfl
  | some p => rw [e] at hb; exact absurd (h.symm.trans hb) (by decide)
theorem Rd.loop_len : ∀ (k : Nat) (r : Rd) (out : List Int), (Rd.loop k r out).1.length ≤ out.length + k
  | 0, r, out => Nat.le_refl _
  | k + 1, r, out => by
    unfold Rd.loop
    split
    · simp
    · have := Rd.loop_len k r.num.2 (out ++ [(r.num.1 : Int)])
      rw [List.length_append] at this
      simp at this
      omega
theorem Rd.nums_len (r : Rd) : r.nums.1.length ≤ r.s.length := by
  unfold Rd.nums
  split
  · exact Nat.zero_le _
  · split
    · exact Nat.zero_le _
    · have h1 := Rd.loop_len r.num.1 r.num.2 []
      have h2 := r.num_bound.2
      simp at h1
      omega

/-- What has failed has nothing unread. -/
def Rd.ok (r : Rd) : Prop := r.bad = true → r.s = []
theorem Rd.fails_ok : Rd.fails.ok := fun _ => rfl
theorem Rd.num_ok {r : Rd} (h : r.ok) : r.num.2.ok := by
  intro hb
  unfold Rd.num at hb ⊢
  cases e : rnum r.s with
  | none => rfl
  | some p =>
    rw [e] at hb
    have := h hb
    rw [this] at e
    cases e
theorem Rd.num_bad0 {r : Rd} (h : r.ok) (hb : r.num.2.bad = true) : r.num.1 = 0 := by
  unfold Rd.num at hb ⊢
  cases e : rnum r.s with
  | none => rfl
  | some p =>
    rw [e] at hb
    have := h hb
    rw [this] at e
    cases e
theorem Rd.take_ok {r : Rd} (h : r.ok) (n : Int) : (r.take n).2.ok := by
  unfold Rd.take
  split
  · exact Rd.fails_ok
  · rename_i hn
    intro hb
    exact absurd (.inr (.inr hb)) hn
theorem Rd.text_ok {r : Rd} (h : r.ok) : r.text.2.ok := Rd.take_ok (Rd.num_ok h) _
theorem Rd.loop_ok : ∀ (k : Nat) (r : Rd) (out : List Int), r.ok → (Rd.loop k r out).2.ok
  | 0, r, out, h => h
  | k + 1, r, out, h => by
    unfold Rd.loop
    split
    · exact Rd.num_ok h
    · exact Rd.loop_ok k _ _ (Rd.num_ok h)
theorem Rd.nums_ok {r : Rd} (h : r.ok) : r.nums.2.ok := by
  unfold Rd.nums
  split
  · exact Rd.fails_ok
  · split
    · exact Rd.num_ok h
    · exact Rd.loop_ok _ _ _ (Rd.num_ok h)
end Go.Proofs.YtfinpehbpcckaaaGreatDoor
end
section
namespace Go.Proofs.YtfinpehbpcckaaaGreatDoor
set_option linter.unusedVariables false

/-- A posting: a document and its positions. -/
structure Post where
  doc : Int
  places : List Int
def far : Int := 1099511627776
/-- Numbers that ascend from low on, none beyond far. -/
def risesP : Int → List Int → Bool
  | _, [] => true
  | low, n :: r => decide (low ≤ n ∧ n ≤ far) && risesP (n + 1) r
theorem risesP_nil (low : Int) : risesP low [] = true := rfl
theorem risesP_cons {low n : Int} {r : List Int} : risesP low (n :: r) = true ↔ (low ≤ n ∧ n ≤ far) ∧ risesP (n + 1) r = true := by
  simp [risesP]
theorem risesP_append : ∀ (a : List Int) (low : Int) (b : List Int), risesP low (a ++ b) = true → risesP low a = true
  | [], low, b, h => rfl
  | n :: r, low, b, h => by
    rw [List.cons_append, risesP_cons] at h
    rw [risesP_cons]
    exact ⟨h.1, risesP_append r _ b h.2⟩
theorem risesP_mem : ∀ (l : List Int) (low : Int), risesP low l = true → ∀ x, x ∈ l → low ≤ x ∧ x ≤ far
  | [], low, h, x, hx => by cases hx
  | n :: r, low, h, x, hx => by
    rw [risesP_cons] at h
    rcases List.mem_cons.1 hx with rfl | hx
    · exact h.1
    · have := risesP_mem r _ h.2 x hx
      omega
theorem risesP_asc : ∀ (l : List Int) (low : Int), risesP low l = true → l.Pairwise (· < ·)
  | [], low, h => List.Pairwise.nil
  | n :: r, low, h => by
    rw [risesP_cons] at h
    rw [List.pairwise_cons]
    exact ⟨fun x hx => by have := risesP_mem r _ h.2 x hx; omega, risesP_asc r _ h.2⟩
theorem risesP_of : ∀ (l : List Int) (low : Int), (∀ x, x ∈ l → low ≤ x ∧ x ≤ far) → l.Pairwise (· < ·) → risesP low l = true
  | [], low, h, hp => rfl
  | n :: r, low, h, hp => by
    rw [List.pairwise_cons] at hp
    rw [risesP_cons]
    refine ⟨h n (by simp), risesP_of r _ (fun x hx => ?_) hp.2⟩
    have h1 := hp.1 x hx
    have h2 := (h x (by simp [hx])).2
    omega
/-- A valid list. -/
def postRight (l : List Post) : Bool := (l.all fun p => !p.places.isEmpty && risesP 0 p.places) && risesP 1 (l.map (·.doc))
theorem postRight_iff {l : List Post} : postRight l = true ↔ (∀ p, p ∈ l → p.places ≠ [] ∧ risesP 0 p.places = true) ∧ risesP 1 (l.map (·.doc)) = true := by
  unfold postRight
  rw [Bool.and_eq_true, List.all_eq_true]
  refine and_congr_left fun _ => forall_congr' fun p => forall_congr' fun _ => ?_
  rw [Bool.and_eq_true]
  refine and_congr_left fun _ => ?_
  cases p.places <;> simp

def encFrom : Int → List Int → List UInt8
  | _, [] => []
  | a, n :: r => vint (n - a) ++ encFrom n r
def encPosts : Int → List Post → List UInt8
  | _, [] => []
  | d, p :: r => vint (p.doc - d) ++ vnum p.places.length ++ encFrom 0 p.places ++ encPosts p.doc r
def postEnc (l : List Post) : List UInt8 := if postRight l = true then vnum l.length ++ encPosts 0 l else []

/-- The last number of a list, a if there is none. -/
def lastOr (a : Int) : List Int → Int
  | [] => a
  | n :: r => lastOr n r
theorem lastOr_snoc : ∀ (l : List Int) (a n : Int), lastOr a (l ++ [n]) = n
  | [], a, n => rfl
  | x :: r, a, n => lastOr_snoc r x n
theorem encFrom_snoc : ∀ (l : List Int) (a n : Int), encFrom a (l ++ [n]) = encFrom a l ++ vint (n - lastOr a l)
  | [], a, n => by simp [encFrom, lastOr]
  | x :: r, a, n => by simp only [List.cons_append, encFrom, lastOr, encFrom_snoc r x n, List.append_assoc]
theorem encPosts_snoc : ∀ (l : List Post) (d : Int) (p : Post), encPosts d (l ++ [p]) = encPosts d l ++ (vint (p.doc - lastOr d (l.map (·.doc))) ++ vnum p.places.length ++ encFrom 0 p.places)
  | [], d, p => by simp [encPosts, lastOr]
  | x :: r, d, p => by simp only [List.cons_append, encPosts, List.map_cons, lastOr, encPosts_snoc r x.doc p, List.append_assoc]

/-- What is written is read. -/
theorem rnum_vnum : ∀ (n : Nat) (t : List UInt8), n < 9223372036854775808 → rnum (vnum n ++ t) = some (n, t) := by
  have key : ∀ (k n : Nat) (t : List UInt8), n < 128 ^ (k + 1) → k ≤ 8 → hi (vnum n ++ t) ≤ k ∧ ∃ h : hi (vnum n ++ t) < (vnum n ++ t).length, (hi (vnum n ++ t) = 0 ∨ (vnum n ++ t)[hi (vnum n ++ t)].toNat ≠ 0) ∧ val ((vnum n ++ t).take (hi (vnum n ++ t) + 1)) = n ∧ (vnum n ++ t).drop (hi (vnum n ++ t) + 1) = t ∧ (0 < n → hi (vnum n ++ t) = 0 ∨ True) ∧ (0 < n → (vnum n ++ t)[hi (vnum n ++ t)].toNat ≠ 0) := by
    intro k
    induction k with
    | zero =>
      intro n t hn _
      have h128 : n < 128 := by simpa using hn
      have e : (UInt8.ofNat n).toNat = n := by rw [UInt8.toNat_ofNat']; omega
      rw [vnum_lt h128]
      have eh : hi ([UInt8.ofNat n] ++ t) = 0 := by simp [hi, e]; omega
      simp only [eh]
      refine ⟨Nat.le_refl _, by simp, .inl trivial, ?_, by simp, fun _ => .inl trivial, fun h => ?_⟩
      · simp [val, e]; omega
      · simp [e]; omega
    | succ k ih =>
      intro n t hn hk
      by_cases h128 : n < 128
      · have e : (UInt8.ofNat n).toNat = n := by rw [UInt8.toNat_ofNat']; omega
        rw [vnum_lt h128]
        have eh : hi ([UInt8.ofNat n] ++ t) = 0 := by simp [hi, e]; omega
        simp only [eh]
        refine ⟨Nat.zero_le _, by simp, .inl trivial, ?_, by simp, fun _ => .inl trivial, fun h => ?_⟩
        · simp [val, e]; omega
        · simp [e]; omega
      · have e : (UInt8.ofNat (n % 128 + 128)).toNat = n % 128 + 128 := by rw [UInt8.toNat_ofNat']; omega
        rw [vnum_ge (by omega), List.cons_append]
        obtain ⟨h1, h2, h3, h4, h5, h6, h7⟩ := ih (n / 128) t (by rw [Nat.pow_succ] at hn; omega) (by omega)
        have eh : hi (UInt8.ofNat (n % 128 + 128) :: (vnum (n / 128) ++ t)) = hi (vnum (n / 128) ++ t) + 1 := by
          simp only [hi]
          rw [if_pos (by rw [e]; omega)]
        have h8 := h7 (by omega)
        simp only [eh, List.getElem_cons_succ, List.take_succ_cons, List.drop_succ_cons, List.length_cons]
        refine ⟨by omega, by omega, .inr h8, ?_, h5, fun _ => .inr trivial, fun _ => h8⟩
        simp only [val, e, h4]
        omega
  intro n t hn
  obtain ⟨h1, h2, h3, h4, h5, -, -⟩ := key 8 n t (by have : (128 : Nat) ^ 9 = 9223372036854775808 := rfl; omega) (Nat.le_refl _)
  rw [rnum_some h2 h1 h3, h4, h5]
end Go.Proofs.YtfinpehbpcckaaaGreatDoor
end
section
namespace Go.Proofs.YtfinpehbpcckaaaGreatDoor
set_option linter.unusedVariables false

theorem vnum_ne (n : Nat) : vnum n ≠ [] := by
  by_cases h : n < 128
  · rw [vnum_lt h]; simp
  · rw [vnum_ge (by omega)]; simp
theorem num_of {n : Nat} {t : List UInt8} {b : Bool} (hn : n < 9223372036854775808) : Rd.num ⟨vnum n ++ t, b⟩ = (n, ⟨t, b⟩) := by
  unfold Rd.num
  rw [rnum_vnum n t hn]
/-- The reading of positions: stp tells the next number, or that it is too far. -/
def gPlaces (stp : Int → Nat → Option Int) : Nat → Rd → Int → List Int → Option (List Int × Rd)
  | 0, r, a, acc => some (acc, r)
  | k + 1, r, a, acc => if r.s = [] then some (acc, r) else match stp a r.num.1 with
    | none => none
    | some x => gPlaces stp k r.num.2 x (acc ++ [x])
def gPosts (stp : Int → Nat → Option Int) : Nat → Rd → Int → List Post → Option (List Post × Rd)
  | 0, r, d, acc => some (acc, r)
  | k + 1, r, d, acc => if r.s = [] then some (acc, r) else match stp d r.num.1 with
    | none => none
    | some x => match gPlaces stp r.num.2.num.1 r.num.2.num.2 0 [] with
      | none => none
      | some (pl, r3) => gPosts stp k r3 x (acc ++ [⟨x, pl⟩])
def Stepping (stp : Int → Nat → Option Int) : Prop := ∀ n by_ : Int, 0 ≤ n → 0 ≤ by_ → n + by_ ≤ far → stp n by_.toNat = some (n + by_)
theorem gPlaces_enc {stp : Int → Nat → Option Int} (hs : Stepping stp) : ∀ (l : List Int) (low a : Int) (t : List UInt8) (acc : List Int), risesP low l = true → 0 ≤ a → a ≤ low → gPlaces stp l.length ⟨encFrom a l ++ t, false⟩ a acc = some (acc ++ l, ⟨t, false⟩)
  | [], low, a, t, acc, h, h0, h1 => by simp [gPlaces, encFrom]
  | n :: r, low, a, t, acc, h, h0, h1 => by
    rw [risesP_cons] at h
    have hf : far = 1099511627776 := rfl
    have e : encFrom a (n :: r) ++ t = vnum (n - a).toNat ++ (encFrom n r ++ t) := by
      simp only [encFrom]
      rw [vint_pos (by omega), List.append_assoc]
    have hn := num_of (n := (n - a).toNat) (t := encFrom n r ++ t) (b := false) (by omega)
    have hst : stp a (n - a).toNat = some n := by rw [hs a (n - a) h0 (by omega) (by omega)]; congr 1; omega
    have ih := gPlaces_enc hs r (n + 1) n t (acc ++ [n]) h.2 (by omega) (by omega)
    rw [List.length_cons, e]
    unfold gPlaces
    rw [if_neg (by simp [vnum_ne]), hn]
    simp only [hst]
    rw [ih, List.append_assoc]; rfl
theorem gPosts_enc {stp : Int → Nat → Option Int} (hs : Stepping stp) : ∀ (l : List Post) (low d : Int) (t : List UInt8) (acc : List Post), (∀ p, p ∈ l → p.places ≠ [] ∧ risesP 0 p.places = true) → (∀ p, p ∈ l → p.places.length < 9223372036854775808) → risesP low (l.map (·.doc)) = true → 0 ≤ d → d ≤ low →
    gPosts stp l.length ⟨encPosts d l ++ t, false⟩ d acc = some (acc ++ l, ⟨t, false⟩)
  | [], low, d, t, acc, h, hl, hr, h0, h1 => by simp [gPosts, encPosts]
  | p :: r, low, d, t, acc, h, hl, hr, h0, h1 => by
    rw [List.map_cons, risesP_cons] at hr
    have hf : far = 1099511627776 := rfl
    have e : encPosts d (p :: r) ++ t = vnum (p.doc - d).toNat ++ (vnum p.places.length ++ (encFrom 0 p.places ++ (encPosts p.doc r ++ t))) := by
      simp only [encPosts]
      rw [vint_pos (by omega)]
      simp only [List.append_assoc]
    have hn := num_of (n := (p.doc - d).toNat) (t := vnum p.places.length ++ (encFrom 0 p.places ++ (encPosts p.doc r ++ t))) (b := false) (by omega)
    have hn2 := num_of (n := p.places.length) (t := encFrom 0 p.places ++ (encPosts p.doc r ++ t)) (b := false) (hl p (by simp))
    have hst : stp d (p.doc - d).toNat = some p.doc := by rw [hs d (p.doc - d) h0 (by omega) (by omega)]; congr 1; omega
    have hpl := gPlaces_enc hs p.places 0 0 (encPosts p.doc r ++ t) [] (h p (by simp)).2 (Int.le_refl _) (Int.le_refl _)
    have ih := gPosts_enc hs r (p.doc + 1) p.doc t (acc ++ [p]) (fun q hq => h q (by simp [hq])) (fun q hq => hl q (by simp [hq])) hr.2 (by omega) (by omega)
    rw [List.length_cons, e]
    unfold gPosts
    rw [if_neg (by simp [vnum_ne]), hn]
    simp only [hst, hn2, hpl, List.nil_append]
    rw [ih, List.append_assoc]; rfl

/-- A list read from a string, with the test behind it. -/
def gDec (stp : Int → Nat → Option Int) (s : List UInt8) : Option (List Post) := match gPosts stp (Rd.num ⟨s, false⟩).1 (Rd.num ⟨s, false⟩).2 0 [] with
  | none => none
  | some (l, r) => if r.done = true ∧ postEnc l = s then some l else none
theorem gDec_some {stp : Int → Nat → Option Int} (hs : Stepping stp) {s : List UInt8} {l : List Post} (hl : s.length < 9223372036854775808) : gDec stp s = some l ↔ postRight l = true ∧ postEnc l = s := by
  constructor
  · intro h
    unfold gDec at h
    split at h
    · cases h
    · rename_i l' r hp
      split at h
      · rename_i hd
        injection h with h
        subst h
        refine ⟨?_, hd.2⟩
        by_cases hr : postRight l' = true
        · exact hr
        · have e0 := hd.2
          unfold postEnc at e0
          rw [if_neg hr] at e0
          subst e0
          have : gPosts stp (Rd.num ⟨[], false⟩).1 (Rd.num ⟨[], false⟩).2 0 [] = some ([], Rd.fails) := rfl
          rw [this] at hp
          injection hp with hp
          injection hp with h1 h2
          subst h2
          exact absurd hd.1 (by decide)
      · cases h
  · rintro ⟨hr, he⟩
    have hi := postRight_iff.1 hr
    unfold postEnc at he
    rw [if_pos hr] at he
    have hlen : ∀ p, p ∈ l → p.places.length ≤ (encFrom 0 p.places).length := by
      intro p hp
      have key : ∀ (x : List Int) (a low : Int), risesP low x = true → a ≤ low → x.length ≤ (encFrom a x).length := by
        intro x
        induction x with
        | nil => intro a low _ _; exact Nat.zero_le _
        | cons n r ih =>
          intro a low h h1
          rw [risesP_cons] at h
          have h2 := ih n (n + 1) h.2 (by omega)
          have h3 : 0 < (vint (n - a)).length := by rw [vint_pos (by omega)]; exact List.length_pos_iff.2 (vnum_ne _)
          simp only [encFrom, List.length_append, List.length_cons]; omega
      exact key _ 0 0 (hi.1 p hp).2 (Int.le_refl _)
    have hsub : ∀ (x : List Post) (d : Int) (p : Post), p ∈ x → (encFrom 0 p.places).length ≤ (encPosts d x).length := by
      intro x
      induction x with
      | nil => intro d p hp; cases hp
      | cons q r ih =>
        intro d p hp
        simp only [encPosts, List.length_append]
        rcases List.mem_cons.1 hp with rfl | hp
        · omega
        · have := ih q.doc p hp; omega
    have hcnt : ∀ (x : List Post) (d : Int), x.length ≤ (encPosts d x).length := by
      intro x
      induction x with
      | nil => intro d; exact Nat.zero_le _
      | cons q r ih =>
        intro d
        have h1 := ih q.doc
        have h2 : 0 < (vnum q.places.length).length := List.length_pos_iff.2 (vnum_ne _)
        simp only [encPosts, List.length_append, List.length_cons]; omega
    have hes : (encPosts 0 l).length ≤ s.length := by rw [← he, List.length_append]; omega
    have hn := num_of (n := l.length) (t := encPosts 0 l) (b := false) (by have := hcnt l 0; omega)
    rw [he] at hn
    unfold gDec
    rw [hn]
    have hg := gPosts_enc hs l 1 0 [] [] hi.1 (fun p hp => by have := hlen p hp; have := hsub l 0 p hp; omega) hi.2 (Int.le_refl _) (by omega)
    rw [List.append_nil] at hg
    simp only [hg, List.nil_append]
    rw [if_pos ⟨rfl, by unfold postEnc; rw [if_pos hr]; exact he⟩]
/-- The list that a string encodes. -/
theorem gDec_same {s1 s2 : Int → Nat → Option Int} (h1 : Stepping s1) (h2 : Stepping s2) {s : List UInt8} (hl : s.length < 9223372036854775808) : gDec s1 s = gDec s2 s := by
  cases e : gDec s1 s with
  | some l => exact ((gDec_some h2 hl).2 ((gDec_some h1 hl).1 e)).symm
  | none =>
    cases e2 : gDec s2 s with
    | none => rfl
    | some l => rw [(gDec_some h1 hl).2 ((gDec_some h2 hl).1 e2)] at e; cases e
/-- The program's step; the reference's. -/
def stepP (n : Int) (k : Nat) : Option Int := some (if (k : Int) > far then far + 1 else min (n + k) (far + 1))
def stepR (n : Int) (k : Nat) : Option Int := if (k : Int) > far - n then none else some (n + k)
theorem stepP_ok : Stepping stepP := by
  intro n b h0 h1 h2
  unfold stepP
  rw [if_neg (by omega)]
  congr 1
  omega
theorem stepR_ok : Stepping stepR := by
  intro n b h0 h1 h2
  unfold stepR
  rw [if_neg (by omega)]
  congr 1
  omega
def postDec (s : List UInt8) : Option (List Post) := gDec stepP s
end Go.Proofs.YtfinpehbpcckaaaGreatDoor
end
section
namespace Go.Proofs.YtfinpehbpcckaaaGreatDoor
open Go.RowKit
set_option linter.unusedVariables false

theorem risesP_drop {l : List Int} {k : Nat} (hk : k < l.length) (low : Int) : risesP low (l.drop k) = (decide (low ≤ gi l k ∧ gi l k ≤ far) && risesP (gi l k + 1) (l.drop (k + 1))) := by
  rw [drop_cons' hk, gi_get hk]; rfl
set_option maxRecDepth 100000 in
theorem rises_any (A : Option Addr) (n c : Nat) (l : List Int) (low : Int) (w : World) (h : Ints w w.heap.size A n l) (hn : n ≤ 1000000000000) (hlo : -9223372036854775808 ≤ low) (hhi : low ≤ 1099511627777) :
    Calls Tryz.prog 121 #[.slice A n c, .int .i64 low] w fun e w' => e = .returned (.bool (risesP low l)) ∧ w = w' := by
  have H := Lib.hid h
  clear h
  go_enter Tryz.func121, Tryz.ntmps121
  go_wp2
  go_loop [1, 9] (fun lo i => ∃ (k : Nat) (x : Int), k ≤ n ∧ i = .int .i64 (k : Int) ∧ lo = .int .i64 x ∧ -9223372036854775808 ≤ x ∧ x ≤ 1099511627777 ∧ Hid (risesP low l = risesP x (l.drop k))) (fun _ i => n - (intOf i).toNat)
  case atStart => exact ⟨0, low, Nat.zero_le _, rfl, rfl, hlo, hhi, rfl⟩
  case round =>
    obtain ⟨k, x, hk, rfl, rfl, hx1, hx2, HR⟩ := hrel
    by_cases hlt : k < n
    · have hk2 : (k : Int) < n := by omega
      have hkl : k < l.length := by rw [H.out.len]; exact hlt
      obtain ⟨ad, rfl, _, c1⟩ := H.out.at_ hlt
      have hst := risesP_drop hkl x
      have hf : far = 1099511627776 := rfl
      rw [hf] at hst
      have HST := Lib.hid hst
      clear hst hf
      by_cases h1 : gi l k < x
      · have HF := Lib.hid (show risesP low l = false by rw [HR.out, HST.out, decide_eq_false (by omega)]; rfl)
        go_wp2
        go_ret
        exact ⟨ret_bool HF.out.symm, rfl⟩
      · have h1' : ¬ gi l k < x := h1
        by_cases h2 : (1099511627776 : Int) < gi l k
        · have HF := Lib.hid (show risesP low l = false by rw [HR.out, HST.out, decide_eq_false (by omega)]; rfl)
          go_wp2
          go_ret
          exact ⟨ret_bool HF.out.symm, rfl⟩
        · have h3 : gi l k ≤ 1099511627776 := by omega
          have h4 : x ≤ gi l k := by omega
          have HF := Lib.hid (show risesP low l = risesP (gi l k + 1) (l.drop (k + 1)) by rw [HR.out, HST.out, decide_eq_true ⟨h4, h3⟩]; rfl)
          go_wp2
          go_round
          case rel => exact ⟨k + 1, gi l k + 1, by omega, by go_num, rfl, by omega, by omega, HF.out⟩
          case measure => simp [intOf] <;> omega
    · obtain rfl : k = n := by omega
      have HF := Lib.hid (show risesP low l = true by rw [HR.out, List.drop_of_length_le (by rw [H.out.len]; exact Nat.le_refl _)]; rfl)
      go_wp2
      go_ret
      exact ⟨ret_bool HF.out.symm, rfl⟩

theorem step_any (n : Int) (k : Nat) (w : World) (h0 : 0 ≤ n) (h1 : n ≤ 1099511627777) (hk : k < 9223372036854775808) :
    Calls Tryz.prog 139 #[.int .i64 n, .int .i64 (k : Int)] w fun e w' => e = .returned (.int .i64 ((stepP n k).getD 0)) ∧ w = w' := by
  unfold stepP
  have hf : far = 1099511627776 := rfl
  rw [hf]
  clear hf
  by_cases h : (1099511627776 : Int) < (k : Int)
  · rw [if_pos h]
    go_enter Tryz.func139, Tryz.ntmps139
    go_wp2
    go_ret
    exact ⟨rfl, rfl⟩
  · rw [if_neg h]
    have h' : (k : Int) ≤ 1099511627776 := by omega
    go_enter Tryz.func139, Tryz.ntmps139
    go_wp2
    go_ret
    exact ⟨rfl, rfl⟩

/-- 'A' with 'n' places reads as the postings 'l', in memory below B. -/
def Posts (w : World) (B : Nat) (A : Option Addr) (n : Nat) (l : List Post) : Prop :=
  n = l.length ∧ ∀ k (hk : k < l.length), ∃ ad X x c, A = some ad ∧ (ad.add (k * 2)).block < B ∧ w.cell? (ad.add (k * 2)) = some (.int .i64 l[k].doc) ∧ w.cell? ⟨(ad.add (k * 2)).block, (ad.add (k * 2)).off + 1, none⟩ = some (.slice X x c) ∧ x ≤ c ∧ c ≤ maxLen ∧ (-9223372036854775808 ≤ l[k].doc ∧ l[k].doc ≤ 9223372036854775807) ∧ Ints w B X x l[k].places
section
variable {w w' : World} {B B' n : Nat} {A : Option Addr} {l : List Post}
theorem Posts.below (h : Posts w B A n l) (hb : Below B w w') : Posts w' B A n l := by
  refine ⟨h.1, fun k hk => ?_⟩
  obtain ⟨ad, X, x, c, e, h1, h2, h3, h4, h5, h6, h7⟩ := h.2 k hk
  exact ⟨ad, X, x, c, e, h1, (hb.cell h1).trans h2, (hb.cell (p := ⟨(ad.add (k * 2)).block, _, none⟩) h1).trans h3, h4, h5, h6, h7.below hb⟩
theorem Posts.more (h : Posts w B A n l) (hB : B ≤ B') : Posts w B' A n l := by
  refine ⟨h.1, fun k hk => ?_⟩
  obtain ⟨ad, X, x, c, e, h1, h2, h3, h4, h5, h6, h7⟩ := h.2 k hk
  exact ⟨ad, X, x, c, e, Nat.lt_of_lt_of_le h1 hB, h2, h3, h4, h5, h6, h7.more hB⟩
theorem Posts.nil_ : Posts w B A 0 [] := ⟨rfl, fun k hk => by simp at hk⟩
theorem Posts.len (h : Posts w B A n l) : l.length = n := h.1.symm
end
/-- Few postings, each with few positions: no counter wraps. -/
def FewPosts (l : List Post) : Prop := l.length ≤ 1000000 ∧ ∀ p, p ∈ l → p.places.length ≤ 1000000

def DocsPost (w : World) (l : List Post) (e : Ending) (w' : World) : Prop := ∃ v, e = .returned v ∧ OwnInts w' w.heap.size v (l.map (·.doc)) ∧ Below w.heap.size w w'
set_option maxRecDepth 100000 in
set_option maxHeartbeats 1000000 in
theorem docs_any (A : Option Addr) (n c : Nat) (l : List Post) (w : World) (h : Posts w w.heap.size A n l) (hn : n ≤ 1000000000) :
    Calls Tryz.prog 122 #[.slice A n c] w (DocsPost w l) := by
  have H := Lib.hid h
  have HL := Lib.hid h.len
  clear h
  go_enter Tryz.func122, Tryz.ntmps122
  go_wp2
  go_loopw [3, 8] (fun v i wr => ∃ k : Nat, k ≤ n ∧ i = .int .i64 (k : Int) ∧ Hid (OwnInts wr w.heap.size v ((l.take k).map (·.doc)) ∧ Below w.heap.size w wr)) (fun _ i _ => n - (intOf i).toNat)
  case atStart => exact ⟨0, Nat.zero_le _, rfl, OwnInts.nil_ _ _, Below.refl _ _⟩
  case round =>
    obtain ⟨k, hk, rfl, HR⟩ := hrel
    have hsz := HR.out.2.size
    by_cases hlt : k < n
    · have hk2 : (k : Int) < n := by omega
      have hkl : k < l.length := by rw [HL.out]; exact hlt
      obtain ⟨ad, X, x, c2, rfl, hbl, c0, c1, hx1, hx2, hd, -⟩ := (H.out.below HR.out.2).2 k hkl
      obtain ⟨p, hp⟩ : ∃ p, l[k] = p := ⟨_, rfl⟩
      rw [hp] at c0 hd
      have HP := Lib.hid hp
      clear hp
      have hown := HR.out.1.alloc (.cells #[.int .i64 p.doc, .slice X x c2] 52)
      have HOWN := Lib.hid hown
      have hB : w.heap.size ≤ (wr.alloc (.cells #[.int .i64 p.doc, .slice X x c2] 52)).heap.size := by simp; omega
      have HAL := Lib.hid (show ((l.take k).map (·.doc)).length < 1099511627776 by rw [List.length_map, List.length_take]; omega)
      have HBEL := Lib.hid (HR.out.2.alloc hsz (.cells #[.int .i64 p.doc, .slice X x c2] 52))
      clear hown
      go_wp2_with (at_builtin; go_must (refine wpList_push HOWN.out hB hd HAL.out rfl (.tmp 12) (.tmp 15) 26 1 rfl Tryz.underlying26 rfl (by show Value.slice (some ⟨wr.heap.size + 1, 0, none⟩) 1 1 = _; simp) ?_); intro v' w4 hown1 hg1 hat1; have H1 := Lib.hid hown1; have H2 := Lib.hid hg1; clear hown1 hg1 hat1)
      go_roundw
      case rel =>
        refine ⟨k + 1, by omega, by go_num, ?_, HBEL.out.grown H2.out hB fun g e => (HOWN.out.1.lt g e).1⟩
        rw [List.take_succ_eq_append_getElem hkl, List.map_append, HP.out]
        exact H1.out
      case measure => simp [intOf] <;> omega
    · obtain rfl : k = n := by omega
      go_wp2
      go_ret
      refine ⟨_, rfl, ?_, HR.out.2⟩
      have := HR.out.1
      rw [List.take_of_length_le (by rw [HL.out]; exact Nat.le_refl _)] at this
      exact this
set_option maxRecDepth 100000 in
set_option maxHeartbeats 1000000 in
theorem right_any (A : Option Addr) (n c : Nat) (l : List Post) (w : World) (h : Posts w w.heap.size A n l) (hf : FewPosts l) :
    Calls Tryz.prog 87 #[.slice A n c] w fun e w' => e = .returned (.bool (postRight l)) ∧ Below w.heap.size w w' := by
  have H := Lib.hid h
  have HL := Lib.hid h.len
  have HF := Lib.hid hf
  have hn : n ≤ 1000000 := by rw [h.1]; exact hf.1
  clear h hf
  go_enter Tryz.func87, Tryz.ntmps87
  go_wp2
  go_loopw [7] (fun i wr => ∃ k : Nat, k ≤ n ∧ i = .int .i64 (k : Int) ∧ Hid (((l.take k).all fun p => !p.places.isEmpty && risesP 0 p.places) = true) ∧ Hid (Below w.heap.size w wr)) (fun i _ => n - (intOf i).toNat)
  case atStart => exact ⟨0, Nat.zero_le _, rfl, rfl, Below.refl _ _⟩
  case round =>
    obtain ⟨k, hk, rfl, HA, HB⟩ := hrel
    have hsz := HB.out.size
    by_cases hlt : k < n
    · have hk2 : (k : Int) < n := by omega
      have hkl : k < l.length := by rw [HL.out]; exact hlt
      have hpl := HF.out.2 _ (List.getElem_mem hkl)
      obtain ⟨ad, X, x, c2, rfl, hbl, c0, c1, hx1, hx2, hd, hI⟩ := (H.out.below HB.out).2 k hkl
      obtain ⟨p, hp⟩ : ∃ p, l[k] = p := ⟨_, rfl⟩
      rw [hp] at c0 hI hpl
      have hxl := hI.len
      rw [hxl] at hpl
      have HP := Lib.hid hp
      have HXL := Lib.hid hxl
      have HBEL := Lib.hid (HB.out.alloc hsz (.cells #[.int .i64 p.doc, .slice X x c2] 52))
      have HI := Lib.hid ((hI.below ((Below.refl w.heap.size wr).alloc hsz (.cells #[.int .i64 p.doc, .slice X x c2] 52))).more (B' := (wr.alloc (.cells #[.int .i64 p.doc, .slice X x c2] 52)).heap.size) (by simp; omega))
      have HST := Lib.hid (show ((l.take (k + 1)).all fun p => !p.places.isEmpty && risesP 0 p.places) = (!p.places.isEmpty && risesP 0 p.places) by
        rw [List.take_succ_eq_append_getElem hkl, List.all_append, HA.out, hp]; simp)
      have hno : (!p.places.isEmpty && risesP 0 p.places) = false → postRight l = false := fun e => by
        cases hr : postRight l with
        | false => rfl
        | true =>
          have h1 := (postRight_iff.1 hr).1 p (by rw [← hp]; exact List.getElem_mem hkl)
          rw [h1.2] at e
          have h2 := h1.1
          cases hpp : p.places with
          | nil => exact absurd hpp h2
          | cons a r => rw [hpp] at e; cases e
      have HNO := Lib.hid hno
      clear hp hI hxl hno
      by_cases hx0 : x = 0
      · have hd0 : ((x : Int) == 0) = true := by simpa using hx0
        have HE := Lib.hid (show p.places = [] from List.eq_nil_of_length_eq_zero (by rw [HXL.out]; exact hx0))
        clear hx0
        go_wp2_with fail
        go_ret
        exact ⟨ret_bool (HNO.out (by rw [HE.out]; rfl)).symm, HBEL.out⟩
      · have hd0 : ((x : Int) == 0) = false := by simpa using hx0
        have HE := Lib.hid (show p.places.isEmpty = false by
          cases hpp : p.places with
          | nil => have := HXL.out; rw [hpp] at this; exact absurd this.symm hx0
          | cons a r => rfl)
        clear hx0
        go_wp2_with fail
        refine (rises_any X x c2 p.places 0 _ HI.out (by omega) (by omega) (by omega)).mono ?_
        rintro e w3 ⟨rfl, rfl⟩
        cases hr : risesP 0 p.places with
        | false =>
          have HRR := Lib.hid hr
          clear hr
          go_wp2
          go_ret
          exact ⟨ret_bool (HNO.out (by rw [HRR.out, Bool.and_false])).symm, HBEL.out⟩
        | true =>
          have HRR := Lib.hid hr
          clear hr
          go_wp2
          go_roundw
          case rel => exact ⟨k + 1, by omega, by go_num, by show _ = true; rw [HST.out, HE.out, HRR.out]; rfl, HBEL.out⟩
          case measure => simp [intOf] <;> omega
    · obtain rfl : k = n := by omega
      have HALL := Lib.hid (show postRight l = risesP 1 (l.map (·.doc)) by
        have := HA.out
        rw [List.take_of_length_le (by rw [HL.out]; exact Nat.le_refl _)] at this
        unfold postRight
        rw [this, Bool.true_and])
      go_wp2_with fail
      refine (docs_any A k c l wr ((H.out.below HB.out).more hsz) (by omega)).mono ?_
      rintro e w3 ⟨v, rfl, hv, hb⟩
      obtain ⟨DA, dc, rfl, -, -, hI⟩ := hv.ints
      have hdl : (l.map (·.doc)).length ≤ 1000000 := by rw [List.length_map, HL.out]; exact hn
      obtain ⟨dn, hdn⟩ : ∃ x, (l.map (·.doc)).length = x := ⟨_, rfl⟩
      rw [hdn] at hI hdl ⊢
      clear hdn
      have HI := Lib.hid hI
      have HB3 := Lib.hid (HB.out.trans (hb.mono hsz))
      clear hv hb hI
      go_wp2_with fail
      refine (rises_any DA dn dc (l.map (·.doc)) 1 w3 HI.out (by omega) (by omega) (by omega)).mono ?_
      rintro e w4 ⟨rfl, rfl⟩
      rw [← HALL.out]
      go_wp2
      go_ret
      exact ⟨rfl, HB3.out⟩
end Go.Proofs.YtfinpehbpcckaaaGreatDoor
end
