/- Layer 10: the contracts of atom, row and closed (printed by gen_tokb. strings. strings. Layer 1, plain: a decimal number in canonical form, as strconv reads it. The contract of small (ctype): lower case of ASCII letters. -/
import Derived.Lib.AtoiAll
import Derived.ShutString
import Derived.Test.YthidbmeaccpjdaaGreatDoorM03
import Derived.Test.YthidbmeaccpjdaaGreatDoorM02
namespace Go.Proofs.YthidbmeaccpjdaaGreatDoor
open Go.RowKit
set_option linter.unusedVariables false
set_option maxHeartbeats 4000000
theorem u8_back (c : UInt8) : ((c.toNat : Int)).toNat.toUInt8 = c := by
 show UInt8.ofNat _ = c
 simp
theorem index_any (c : UInt8) (w : World) : Calls Tryz.prog 128 #[.string ⟨#[40, 41, 60, 62, 91, 93, 58, 59, 64, 92, 44, 46, 34]⟩, .int .u8 (c.toNat : Int)] w fun e w' => e = .returned (.int .i64 (Lib.indexByte specials c)) ∧ w' = w := by
 refine (Tryz.strings_IndexByte _ (c.toNat : Int) w).mono ?_
 rintro e w' ⟨rfl, rfl⟩
 rw [u8_back]
 exact ⟨rfl, rfl⟩
theorem atomB_int (c : UInt8) : atomB c = (decide (32 < (c.toNat : Int)) && decide ((c.toNat : Int) ≠ 127) && !specials.contains c) := by
 unfold atomB
 have h1 : decide (32 < c) = decide (32 < (c.toNat : Int)) := by
  rw [Bool.eq_iff_iff, decide_eq_true_iff, decide_eq_true_iff, UInt8.lt_iff_toNat_lt]
  show (32 : Nat) < c.toNat ↔ _
  omega
 have h2 : (c != 127) = decide ((c.toNat : Int) ≠ 127) := by
  unfold bne
  rw [u8_beq, decide_not]
  rfl
 rw [h1, h2]
theorem tatom_any (c : UInt8) (w : World) : Calls Tryz.prog 204 #[.int .u8 (c.toNat : Int)] w fun e w' => e = .returned (.bool (atomB c)) ∧ w' = w := by
 have HF := Lib.hid (atomB_int c)
 have hix := index_any c
 have hs := specials_index c
 obtain ⟨v, hv⟩ : ∃ v, Lib.indexByte specials c = v := ⟨_, rfl⟩
 rw [hv] at hs
 simp only [hv] at hix
 obtain ⟨x, hx⟩ : ∃ x : Int, (c.toNat : Int) = x := ⟨_, rfl⟩
 rw [hx] at HF ⊢
 simp only [hx] at hix
 have HIX := Lib.hid hix
 have HS := Lib.hid hs
 clear hx hix hv hs
 by_cases e1 : 32 < x
 ·have g1 : decide (32 < x) = true := decide_eq_true e1
  by_cases e2 : x = 127
  ·have g2 : (x != 127) = false := by simp [e2]
   have HG := Lib.hid (show atomB c = false by rw [HF.out]; simp [e2])
   clear HF e1 e2
   go_enter Tryz.func204, Tryz.ntmps204
   go_wp2
   go_ret
   exact ⟨by rw [HG.out]; rfl, rfl⟩
  ·have g2 : (x != 127) = true := by simpa using e2
   have HG := Lib.hid (show atomB c = decide (v < 0) by rw [HF.out, HS.out, g1]; simp [e2])
   clear HF e1 e2
   go_enter Tryz.func204, Tryz.ntmps204
   go_wp2_with fail
   refine (HIX.out w).mono ?_
   rintro e w' ⟨rfl, rfl⟩
   go_wp2
   go_ret
   exact ⟨by rw [HG.out]; rfl, rfl⟩
 ·have g1 : decide (32 < x) = false := decide_eq_false e1
  have HG := Lib.hid (show atomB c = false by rw [HF.out, g1]; rfl)
  clear HF e1
  go_enter Tryz.func204, Tryz.ntmps204
  go_wp2
  go_ret
  exact ⟨by rw [HG.out]; rfl, rfl⟩
theorem row_blank (l : List UInt8) (w : World) (hl : l.length ≤ 1000000000) : Calls Tryz.prog 203 #[.string (ba l), .func (.func 202) #[] #[]] w fun e w' => e = .returned (.int .i64 ((l.takeWhile blankB).length : Nat)) ∧ w' = w := by
 have HN := Lib.hid (ba_size l)
 have HGET := Lib.hid (fun k (h : k < (ba l).size) => ba_get l k h)
 obtain ⟨s, hs⟩ : ∃ s, ba l = s := ⟨_, rfl⟩
 rw [hs] at HN ⊢
 have HS := Lib.hid hs
 clear hs
 obtain ⟨n, hn⟩ : ∃ n, l.length = n := ⟨_, rfl⟩
 have HL := Lib.hid hn
 rw [hn] at hl
 have HZ := Lib.hid (show s.size = n by rw [HN.out, hn])
 have hsz : (s.size : Int) = n := by rw [HZ.out]
 clear hn
 go_enter Tryz.func203, Tryz.ntmps203
 go_wp2
 go_loop [8] (fun i => ∃ k : Nat, k ≤ n ∧ i = .int .i64 (k : Int) ∧ Hid (∀ j (hj : j < l.length), j < k → blankB l[j] = true)) (fun i => n - (intOf i).toNat)
 case atStart => exact ⟨0, Nat.zero_le _, rfl, Lib.hid fun j _ h => absurd h (by omega)⟩
 case round =>
  obtain ⟨k, hk, rfl, HA⟩ := hrel
  by_cases hlt : k < n
  ·have hk2 : (k : Int) < (n : Int) := by omega
   have hk0 : (0 : Int) ≤ (k : Int) := by omega
   have hks : k < s.size := by rw [HZ.out]; exact hlt
   have hkl : k < l.length := by rw [HL.out]; exact hlt
   have hget : s[k] = l[k] := by
    have h := HS.out
    subst h
    rfl
   have HST := Lib.hid (tw_stop (p := blankB) hkl HA.out)
   have HNX := Lib.hid (show blankB l[k] = true → ∀ j (hj : j < l.length), j < k + 1 → blankB l[j] = true from fun h j hj hjk => by
    rcases Nat.lt_or_ge j k with h1 | h1
    ·exact HA.out j hj h1
    ·have : j = k := by omega
     subst this; exact h)
   obtain ⟨c, hc⟩ : ∃ c, l[k] = c := ⟨_, rfl⟩
   rw [hc] at hget HST HNX
   obtain ⟨b, hb⟩ : ∃ b, blankB c = b := ⟨_, rfl⟩
   have HC := Lib.hid (fun W => tblank_any c W)
   rw [hb] at HST HNX HC
   clear hc hkl
   go_wp2_with fail
   refine (HC.out w).mono ?_
   rintro e w' ⟨rfl, rfl⟩
   cases b
   ·have HF := Lib.hid (HST.out rfl)
    go_wp2
    go_ret
    exact ⟨by rw [HF.out]; rfl, rfl⟩
   ·have HX := Lib.hid (HNX.out rfl)
    go_wp2
    go_round
    case rel => exact ⟨k + 1, by omega, by go_num, HX⟩
    case measure => simp [intOf] <;> omega
  ·obtain rfl : k = n := by omega
   have HF := Lib.hid (show (l.takeWhile blankB).length = k by rw [tw_all fun j hj => HA.out j hj (by rw [HL.out] at hj; exact hj), HL.out])
   go_wp2
   go_ret
   exact ⟨by rw [HF.out]; simp, rfl⟩
theorem row_atom (l : List UInt8) (w : World) (hl : l.length ≤ 1000000000) : Calls Tryz.prog 203 #[.string (ba l), .func (.func 204) #[] #[]] w fun e w' => e = .returned (.int .i64 ((l.takeWhile atomB).length : Nat)) ∧ w' = w := by
 have HN := Lib.hid (ba_size l)
 have HGET := Lib.hid (fun k (h : k < (ba l).size) => ba_get l k h)
 obtain ⟨s, hs⟩ : ∃ s, ba l = s := ⟨_, rfl⟩
 rw [hs] at HN ⊢
 have HS := Lib.hid hs
 clear hs
 obtain ⟨n, hn⟩ : ∃ n, l.length = n := ⟨_, rfl⟩
 have HL := Lib.hid hn
 rw [hn] at hl
 have HZ := Lib.hid (show s.size = n by rw [HN.out, hn])
 have hsz : (s.size : Int) = n := by rw [HZ.out]
 clear hn
 go_enter Tryz.func203, Tryz.ntmps203
 go_wp2
 go_loop [8] (fun i => ∃ k : Nat, k ≤ n ∧ i = .int .i64 (k : Int) ∧ Hid (∀ j (hj : j < l.length), j < k → atomB l[j] = true)) (fun i => n - (intOf i).toNat)
 case atStart => exact ⟨0, Nat.zero_le _, rfl, Lib.hid fun j _ h => absurd h (by omega)⟩
 case round =>
  obtain ⟨k, hk, rfl, HA⟩ := hrel
  by_cases hlt : k < n
  ·have hk2 : (k : Int) < (n : Int) := by omega
   have hk0 : (0 : Int) ≤ (k : Int) := by omega
   have hks : k < s.size := by rw [HZ.out]; exact hlt
   have hkl : k < l.length := by rw [HL.out]; exact hlt
   have hget : s[k] = l[k] := by
    have h := HS.out
    subst h
    rfl
   have HST := Lib.hid (tw_stop (p := atomB) hkl HA.out)
   have HNX := Lib.hid (show atomB l[k] = true → ∀ j (hj : j < l.length), j < k + 1 → atomB l[j] = true from fun h j hj hjk => by
    rcases Nat.lt_or_ge j k with h1 | h1
    ·exact HA.out j hj h1
    ·have : j = k := by omega
     subst this; exact h)
   obtain ⟨c, hc⟩ : ∃ c, l[k] = c := ⟨_, rfl⟩
   rw [hc] at hget HST HNX
   obtain ⟨b, hb⟩ : ∃ b, atomB c = b := ⟨_, rfl⟩
   have HC := Lib.hid (fun W => tatom_any c W)
   rw [hb] at HST HNX HC
   clear hc hkl
   go_wp2_with fail
   refine (HC.out w).mono ?_
   rintro e w' ⟨rfl, rfl⟩
   cases b
   ·have HF := Lib.hid (HST.out rfl)
    go_wp2
    go_ret
    exact ⟨by rw [HF.out]; rfl, rfl⟩
   ·have HX := Lib.hid (HNX.out rfl)
    go_wp2
    go_round
    case rel => exact ⟨k + 1, by omega, by go_num, HX⟩
    case measure => simp [intOf] <;> omega
  ·obtain rfl : k = n := by omega
   have HF := Lib.hid (show (l.takeWhile atomB).length = k by rw [tw_all fun j hj => HA.out j hj (by rw [HL.out] at hj; exact hj), HL.out])
   go_wp2
   go_ret
   exact ⟨by rw [HF.out]; simp, rfl⟩
structure BldA (w : World) (b k0 : Nat) (l : List UInt8) : Prop where
 at_ : ∃ p v, Lib.BuilderAtF 64 5 b b p (Lib.byteCells l) w ∧ (p = .pointer none ∨ p = .pointer (some ⟨b, 0, none⟩)) ∧ w.heap[b]? = some (.cells #[p, v] 64 (0, 0)) ∧ w.ownsRowF (k0 + 1) 5 1 v (Lib.byteCells l).length (Lib.byteCells l)
 lt : b < k0 + 1 ∧ k0 < w.heap.size
theorem BldA.bld {w : World} {b k0 : Nat} {l : List UInt8} (h : BldA w b k0 l) : Bld w b b l := by
 obtain ⟨p, v, h1, h2 | h2, _⟩ := h.at_
 ·exact .inl (h2 ▸ h1)
 ·exact .inr (h2 ▸ h1)
theorem BldA.new {w : World} {b k0 : Nat} (hb : w.heap[b]? = some (.cells #[.pointer none, .slice none 0 0] 64 (0, 0))) (hlt : b < k0 + 1) (hk : k0 < w.heap.size) : BldA w b k0 [] := by
 refine ⟨⟨_, _, ⟨Nat.le_refl _, _, hb, ⟨rfl, .inl ⟨rfl, rfl⟩⟩, by simp [Value.ownBlock]⟩, .inl rfl, hb, ⟨rfl, .inl ⟨rfl, rfl⟩⟩⟩, hlt, hk⟩
def KeptA (w w' : World) (b k0 : Nat) : Prop := ∀ k, k ≤ k0 → k ≠ b → w'.heap[k]? = w.heap[k]?
def CheckPostA (w : World) (b k0 : Nat) (l : List UInt8) (e : Ending) (w' : World) : Prop := e = .returned (.tuple #[]) ∧ BldA w' b k0 l ∧ w'.cell? ⟨b, 0, none⟩ = some (.pointer (some ⟨b, 0, none⟩)) ∧ Below b w w' ∧ KeptA w w' b k0
theorem check_anyA (b k0 : Nat) (l : List UInt8) (w : World) (h : BldA w b k0 l) : Calls Tryz.prog 116 #[.pointer (some ⟨b, 0, none⟩)] w (CheckPostA w b k0 l) := by
 obtain ⟨⟨p, v, h1, h2, h3, h4⟩, h5⟩ := h
 rcases h2 with rfl | rfl
 ·refine (check_fresh b w h1.cell0 h1.shape h1.frozen0).mono ?_
  rintro e w' ⟨rfl, rfl⟩
  have hk : (w.setCell ⟨b, 0, none⟩ (.pointer (some ⟨b, 0, none⟩))).heap[b]? = some (.cells #[.pointer (some ⟨b, 0, none⟩), v] 64 (0, 0)) := by
   have := heap_setCell_same w b 0 _ _ (.pointer (some ⟨b, 0, none⟩)) h3
   simpa using this
  have hv : ∀ g, v.ownBlock = some g → (w.setCell ⟨b, 0, none⟩ (.pointer (some ⟨b, 0, none⟩))).heap[g]? = w.heap[g]? := fun g hg => heap_setCell_other w ⟨b, 0, none⟩ g _ (by have := (h4.lt g hg).1; show g ≠ b; omega)
  refine ⟨rfl, ⟨⟨_, v, h1.used _, .inr rfl, hk, ?_⟩, h5.1, by simpa using h5.2⟩, by rw [Lib.cell_of_heap hk]; rfl, (Below.refl b w).setCell (p := ⟨b, 0, none⟩) (Nat.le_refl _) _, fun k _ hk => heap_setCell_other w ⟨b, 0, none⟩ k _ hk⟩
  obtain ⟨e0, h6⟩ := h4
  refine ⟨e0, ?_⟩
  rcases h6 with h6 | ⟨g, cap, cur, fz, e, q1, q2, q3⟩
  ·exact .inl h6
  ·exact .inr ⟨g, cap, cur, fz, e, q1, (hv g (by rw [e]; rfl)).trans q2, q3⟩
 ·refine (check_used b w h1.cell0).mono ?_
  rintro e w' ⟨rfl, rfl⟩
  exact ⟨rfl, ⟨⟨_, v, h1, .inr rfl, h3, h4⟩, h5⟩, h1.cell0, Below.refl b _, fun _ _ _ => rfl⟩
def WroteA (w : World) (b k0 : Nat) (l : List UInt8) (v : Value) (e : Ending) (w' : World) : Prop := e = .returned v ∧ BldA w' b k0 l ∧ Below b w w' ∧ KeptA w w' b k0
set_option maxRecDepth 100000 in
theorem write_byteA (b k0 : Nat) (l : List UInt8) (c : UInt8) (w : World) (h : BldA w b k0 l) (hlen : l.length + 1 ≤ 140737488355328) :
  Calls Tryz.prog 56 #[.pointer (some ⟨b, 0, none⟩), .int .u8 c.toNat] w (WroteA w b k0 (l ++ [c]) .nilIface) := by
 obtain ⟨i0, hi, hz0, hz1, hz2⟩ := info_parts info_byte
 have H := Lib.hid h
 clear h
 obtain ⟨u, hu⟩ : ∃ x : Int, (c.toNat : Int) = x := ⟨_, rfl⟩
 rw [hu]
 have HU := Lib.hid hu
 clear hu
 go_enter Tryz.func56, Tryz.ntmps56
 go_wp2_with fail
 refine (check_anyA b k0 l _ H.out).mono ?_
 rintro e w1 ⟨rfl, ⟨⟨p, v, hB, hpp, hbk, hown⟩, hlt2⟩, c0, hb1, hk1⟩
 obtain rfl : p = .pointer (some ⟨b, 0, none⟩) := by
  have : w1.cell? ⟨b, 0, none⟩ = some p := by rw [Lib.cell_of_heap hbk]; rfl
  rw [this] at c0
  exact Option.some.inj c0
 have HBB := Lib.hid hB
 have HK1 := Lib.hid hk1
 have HLT := Lib.hid hlt2
 clear hB hpp hk1 hlt2
 obtain ⟨bs, hbs⟩ : ∃ x, Lib.byteCells l = x := ⟨_, rfl⟩
 have hbl : bs.length = l.length := by rw [← hbs, Lib.byteCells_length]
 rw [hbs] at hown
 rw [← hbl] at hlen
 have HBS := Lib.hid hbs
 clear hbs hbl
 have hb0 : k0 + 1 ≤ w1.heap.size := HLT.out.2
 have c1 : w1.cell? ⟨b, 1, none⟩ = some v := by rw [Lib.cell_of_heap hbk]; rfl
 have hne : v.ownBlock ≠ some b := fun e => by have := (hown.lt b e).1; have := HLT.out.1; omega
 go_wp2_with (at_builtin; refine wpList_append_ownF _ rfl _ _ 62 rfl (k0 + 1) 5 i0 (.int .u8 0) 1 1 Tryz.underlying62 hi hz0 hz1 hz2 rfl (by decide) _ _ _ rfl (hown.alloc _) ⟨w1.heap.size, 0, none⟩ 1 1 [.int .u8 u] rfl rfl ?c1 ?c2 ?c3 ?c4 ?c5 ?_)
 case c1 =>
  intro j u hj
  match j, hj with
  | 0, hj => simp at hj; subst hj; simp [Addr.add]
 case c2 => intro u hu; simp at hu; subst hu; rfl
 case c3 => unfold maxLen; omega
 case c4 => omega
 case c5 => simp; omega
 intro v' w2 hown' hgrow _
 have hlt : b < w1.heap.size := heap_lt hbk
 have hb2 : w2.heap[b]? = some (.cells #[.pointer (some ⟨b, 0, none⟩), v] 64 (0, 0)) := by
  rw [hgrow.block b (by simp; omega) (fun e => hne e.symm), Lib.alloc_old w1 _ b hlt]
  exact hbk
 have d0 : w2.cell? ⟨b, 0, none⟩ = some (.pointer (some ⟨b, 0, none⟩)) := by rw [Lib.cell_of_heap hb2]; rfl
 have d1 : w2.cell? ⟨b, 1, none⟩ = some v := by rw [Lib.cell_of_heap hb2]; rfl
 have f1 : w2.frozen? ⟨b, 1, none⟩ = false := Lib.frozen_of_heap hb2 1
 obtain ⟨g, cap, rfl⟩ : ∃ g cap, v' = .slice (some ⟨g, 0, none⟩) (bs.length + 1) cap := by
  rcases hown'.2 with ⟨_, h0⟩ | ⟨g, cap, cur, fz, hv, _⟩
  ·omega
  ·exact ⟨g, cap, hv⟩
 go_wp2
 go_ret
 have hgk : k0 + 1 ≤ g := (hown'.lt g rfl).1
 have e1 : Lib.byteCells (l ++ [c]) = bs ++ [Value.int .u8 u] := by rw [Lib.byteCells_append, HBS.out, ← HU.out]; rfl
 have hbn : (w2.setCell ⟨b, 1, none⟩ (.slice (some ⟨g, 0, none⟩) (bs.length + 1) cap)).heap[b]? = some (.cells #[.pointer (some ⟨b, 0, none⟩), .slice (some ⟨g, 0, none⟩) (bs.length + 1) cap] 64 (0, 0)) := by
  have := heap_setCell_same w2 b 1 _ _ (.slice (some ⟨g, 0, none⟩) (bs.length + 1) cap) hb2
  simpa using this
 have hgb : g ≠ b := by have := HLT.out.1; omega
 have howns : (w2.setCell ⟨b, 1, none⟩ (.slice (some ⟨g, 0, none⟩) (bs.length + 1) cap)).ownsRowF (k0 + 1) 5 1 (.slice (some ⟨g, 0, none⟩) (bs.length + 1) cap) (bs ++ [Value.int .u8 u]).length (bs ++ [Value.int .u8 u]) := by
  have h7 : w2.ownsRowF (k0 + 1) 5 1 (.slice (some ⟨g, 0, none⟩) (bs.length + 1) cap) (bs ++ [Value.int .u8 u]).length (bs ++ [Value.int .u8 u]) := by simpa using hown'
  obtain ⟨e0, h6⟩ := h7
  refine ⟨e0, ?_⟩
  rcases h6 with h6 | ⟨g2, cap2, cur, fz, e, q1, q2, q3⟩
  ·exact .inl h6
  ·have hg2 : g2 = g := by injection e with e; injection e with e; injection e with e; exact e.symm
   exact .inr ⟨g2, cap2, cur, fz, e, q1, (heap_setCell_other w2 ⟨b, 1, none⟩ g2 _ (by rw [hg2]; exact hgb)).trans q2, q3⟩
 refine ⟨rfl, ⟨⟨_, _, ?_, .inr rfl, hbn, ?_⟩, HLT.out.1, by have := hgrow.size; simp at this ⊢; omega⟩, ?_, ?_⟩
 ·rw [e1]
  have hown3 : w2.ownsRowF b 5 1 (.slice (some ⟨g, 0, none⟩) (bs.length + 1) cap) (bs ++ [Value.int .u8 u]).length (bs ++ [Value.int .u8 u]) := by
   have h7 : w2.ownsRowF (k0 + 1) 5 1 (.slice (some ⟨g, 0, none⟩) (bs.length + 1) cap) (bs ++ [Value.int .u8 u]).length (bs ++ [Value.int .u8 u]) := by simpa using hown'
   obtain ⟨e0, h6⟩ := h7
   refine ⟨e0, ?_⟩
   rcases h6 with h6 | ⟨g2, cap2, cur, fz, e, q1, q2, q3⟩
   ·exact .inl h6
   ·exact .inr ⟨g2, cap2, cur, fz, e, by have := HLT.out.1; omega, q2, q3⟩
  exact Lib.BuilderAtF.put (T := 64) (e := 5) (Nat.le_refl b) hb2 hown3 (by decide)
 ·rw [e1]; exact howns
 ·exact ((hb1.alloc (by have := HLT.out.1; omega) _).grown hgrow (by simp; omega) (fun k hk => by have := (hown.lt k hk).1; have := HLT.out.1; omega)).setCell (p := ⟨b, 1, none⟩) (Nat.le_refl _) _
 ·intro k hk hkb
  rw [heap_setCell_other w2 ⟨b, 1, none⟩ k _ hkb, hgrow.block k (by simp; omega) (fun e => by have := (hown.lt k e.symm).1; omega), Lib.alloc_old w1 _ k (by omega)]
  exact HK1.out k hk hkb
def CheckPost3 (w : World) (B b : Nat) (bs : List Value) (e : Ending) (w' : World) : Prop := e = .returned (.tuple #[]) ∧ Lib.BuilderAtF 64 5 B b (.pointer (some ⟨b, 0, none⟩)) bs w' ∧ Below B w w' ∧ Lib.OthersKept 5 (some b) w w' ∧ ∀ k, k ≠ b → w'.heap[k]? = w.heap[k]?
theorem check_any3 (B b : Nat) (bs : List Value) (w : World) (h : Lib.IsBuilderF 64 5 B b bs w) : Calls Tryz.prog 116 #[.pointer (some ⟨b, 0, none⟩)] w (CheckPost3 w B b bs) := by
 rcases h with h | h
 ·refine (check_fresh b w h.cell0 h.shape h.frozen0).mono ?_
  rintro e w' ⟨rfl, rfl⟩
  exact ⟨rfl, h.used _, (Below.refl B w).setCell (p := ⟨b, 0, none⟩) h.1 _, (Lib.OthersKept.refl _ _ w).setCell ⟨b, 0, none⟩ rfl _, fun k hk => heap_setCell_other w ⟨b, 0, none⟩ k _ hk⟩
 ·refine (check_used b w h.cell0).mono ?_
  rintro e w' ⟨rfl, rfl⟩
  exact ⟨rfl, h, Below.refl B _, Lib.OthersKept.refl _ _ _, fun _ _ => rfl⟩
set_option maxRecDepth 100000 in
theorem write_bytes (B b g c : Nat) (l t : List UInt8) (w : World) (h : Bld w B b l) (hlen : l.length + t.length ≤ 140737488355328) (hBw : B ≤ w.heap.size) (ht : ByteRow w g t) (hgb : g ≠ b) :
  Calls Tryz.prog 83 #[.pointer (some ⟨b, 0, none⟩), .slice (some ⟨g, 0, none⟩) t.length c] w (WrotePost w B b (l ++ t) (.tuple #[.int .i64 (t.length : Nat), .nilIface])) := by
 obtain ⟨i0, hi, hz0, hz1, hz2⟩ := info_parts info_byte
 obtain ⟨bs, hbs⟩ : ∃ x, Lib.byteCells l = x := ⟨_, rfl⟩
 have hbl : bs.length = l.length := by rw [← hbs, Lib.byteCells_length]
 unfold Bld at h
 rw [hbs] at h
 rw [← hbl] at hlen
 have HBS := Lib.hid hbs
 have H := Lib.hid h
 clear hbs hbl h
 have HT := Lib.hid ht
 obtain ⟨ts, hts⟩ : ∃ x, Lib.byteCells t = x := ⟨_, rfl⟩
 have htl : ts.length = t.length := by rw [← hts, Lib.byteCells_length]
 obtain ⟨m, hm⟩ : ∃ m, t.length = m := ⟨_, rfl⟩
 have HM := Lib.hid hm
 have HTS := Lib.hid hts
 rw [hm] at hlen htl ⊢
 have HTL := Lib.hid htl
 clear ht hts htl hm
 go_enter Tryz.func83, Tryz.ntmps83
 go_wp2_with fail
 refine (check_any3 B b bs _ H.out).mono ?_
 rintro e w1 ⟨rfl, h1, hb1, hk1, hst⟩
 obtain ⟨hB, v, hbk, hown, hne⟩ := h1
 have HT1 := Lib.hid (HT.out.kept (hst g hgb))
 clear hst
 have c0 : w1.cell? ⟨b, 0, none⟩ = some (.pointer (some ⟨b, 0, none⟩)) := by rw [Lib.cell_of_heap hbk]; rfl
 have c1 : w1.cell? ⟨b, 1, none⟩ = some v := by rw [Lib.cell_of_heap hbk]; rfl
 go_wp2_with (at_builtin; refine wpList_append_ownF _ rfl _ _ 62 rfl B 5 i0 (.int .u8 0) 1 1 Tryz.underlying62 hi hz0 hz1 hz2 rfl (by decide) _ _ _ rfl hown ⟨g, 0, none⟩ m c ts rfl (by rw [HTL.out, Nat.mul_one]) ?c1 ?c2 ?c3 ?c4 ?c5 ?_)
 case c1 =>
  intro j u hj
  rw [← HTS.out] at hj
  have hjl : j < t.length := by
   have := (List.getElem?_eq_some_iff.1 hj).1
   rwa [Lib.byteCells_length] at this
  have hc := HT1.out.cells j hjl
  rw [hc]
  have e : (Lib.byteCells t)[j]? = some (.int .u8 (t[j].toNat : Int)) := by unfold Lib.byteCells; simp [hjl]
  rw [e] at hj
  exact hj
 case c2 =>
  intro u hu
  rw [← HTS.out] at hu
  obtain ⟨c, _, rfl⟩ := List.mem_map.1 hu
  rfl
 case c3 => unfold maxLen; omega
 case c4 => omega
 case c5 => have := hb1.size; omega
 intro v' w2 hown' hgrow _
 have hlt : b < w1.heap.size := heap_lt hbk
 have hb2 : w2.heap[b]? = some (.cells #[.pointer (some ⟨b, 0, none⟩), v] 64 (0, 0)) := by
  rw [hgrow.block b hlt (fun e => hne e.symm)]
  exact hbk
 have d0 : w2.cell? ⟨b, 0, none⟩ = some (.pointer (some ⟨b, 0, none⟩)) := by rw [Lib.cell_of_heap hb2]; rfl
 have d1 : w2.cell? ⟨b, 1, none⟩ = some v := by rw [Lib.cell_of_heap hb2]; rfl
 have f1 : w2.frozen? ⟨b, 1, none⟩ = false := Lib.frozen_of_heap hb2 1
 obtain ⟨ao, n', cap, rfl⟩ : ∃ ao n' cap, v' = .slice ao n' cap := by
  rcases hown'.2 with ⟨hv, _⟩ | ⟨g, cap, cur, fz, hv, _⟩
  ·exact ⟨_, _, _, hv⟩
  ·exact ⟨_, _, _, hv⟩
 go_wp2
 go_ret2
 refine ⟨rfl, ?_, ?_, (hk1.grown hgrow (Lib.ownsRowF_kind hown)).setCell ⟨b, 1, none⟩ rfl _⟩
 ·have e1 : Lib.byteCells (l ++ t) = bs ++ ts := by rw [Lib.byteCells_append, HBS.out, HTS.out]
  unfold Bld
  rw [e1]
  exact .inr (Lib.BuilderAtF.put (T := 64) (e := 5) hB hb2 (bs' := bs ++ ts) (by simpa [HTL.out] using hown') (by decide))
 ·exact (hb1.grown hgrow (by have := hb1.size; omega) (fun k hk => (hown.lt k hk).1)).setCell (p := ⟨b, 1, none⟩) hB _
def decA (a : Nat) (l : List UInt8) : Nat := l.foldl (fun a c => a * 10 + (c.toNat - 48)) a
theorem decA_ge : ∀ (l : List UInt8) (a : Nat), a ≤ decA a l
 | [], a => Nat.le_refl _
 | c :: r, a => by
  have := decA_ge r (a * 10 + (c.toNat - 48))
  show a ≤ decA (a * 10 + (c.toNat - 48)) r
  omega
theorem digitB_nat {c : UInt8} : digitB c = true ↔ 48 ≤ c.toNat ∧ c.toNat ≤ 57 := by
 unfold digitB
 rw [decide_eq_true_iff, UInt8.le_iff_toNat_le, UInt8.le_iff_toNat_le]
 exact Iff.rfl
theorem parse_digits : ∀ (l : List UInt8) (a : Nat), a < 18446744073709551616 → l.all digitB = true →
  (Lib.parseUint10 a l = .ok (decA a l) ∧ decA a l < 18446744073709551616) ∨ (Lib.parseUint10 a l = .range ∧ 18446744073709551616 ≤ decA a l)
 | [], a, h, _ => .inl ⟨rfl, h⟩
 | c :: r, a, h, hd => by
  rw [List.all_cons, Bool.and_eq_true] at hd
  have hc := digitB_nat.1 hd.1
  have hge := decA_ge r (a * 10 + (c.toNat - 48))
  have e : decA a (c :: r) = decA (a * 10 + (c.toNat - 48)) r := rfl
  unfold Lib.parseUint10
  rw [if_pos hc, e]
  by_cases h1 : 1844674407370955162 ≤ a
  ·rw [if_pos h1]; exact .inr ⟨rfl, by omega⟩
  ·rw [if_neg h1]
   by_cases h2 : 18446744073709551616 ≤ a * 10 + (c.toNat - 48)
   ·rw [if_pos h2]; exact .inr ⟨rfl, by omega⟩
   ·rw [if_neg h2]; exact parse_digits r _ (by omega) hd.2
def decD (l : List UInt8) : List UInt8 := if l.head? = some 45 then l.drop 1 else l
def decN (l : List UInt8) : Int := if l.head? = some 45 then -(decV (decD l) : Int) else (decV (decD l) : Int)
def canonB (l : List UInt8) : Prop := (decD l).all digitB = true ∧ decD l ≠ [] ∧ ¬ ((decD l).head? = some 48 ∧ l ≠ [48])
instance (l : List UInt8) : Decidable (canonB l) := inferInstanceAs (Decidable (_ ∧ _))
theorem decP_eq (l : List UInt8) (lo hi : Int) : decP l lo hi = if canonB l ∧ lo ≤ decN l ∧ decN l ≤ hi then some (decN l) else none := by
 unfold decP canonB decN decD
 by_cases h : l.head? = some 45
 ·simp only [h, if_true]
  by_cases h2 : (l.drop 1).all digitB = true ∧ l.drop 1 ≠ [] ∧ ¬ ((l.drop 1).head? = some 48 ∧ l ≠ [48])
  ·simp only [h2, not_false_eq_true, and_self, if_true, true_and, ne_eq]
  ·simp only [ne_eq] at h2
   simp only [ne_eq, h2, if_false, false_and]
 ·simp only [h, if_false]
  by_cases h2 : l.all digitB = true ∧ l ≠ [] ∧ ¬ (l.head? = some 48 ∧ l ≠ [48])
  ·simp only [h2, not_false_eq_true, and_self, if_true, true_and, ne_eq]
  ·simp only [ne_eq] at h2
   simp only [ne_eq, h2, if_false, false_and]
theorem atoi_canon {l : List UInt8} (h : canonB l) : (Lib.atoiAll l = .ok (decN l) ∧ -9223372036854775808 ≤ decN l ∧ decN l ≤ 9223372036854775807) ∨ (Lib.atoiAll l = .range ∧ (decN l < -9223372036854775808 ∨ 9223372036854775807 < decN l)) := by
 obtain ⟨h1, h2, h3⟩ := h
 have hp := parse_digits (decD l) 0 (by omega) h1
 have hm : Lib.parseMag (decD l) = Lib.parseUint10 0 (decD l) := by unfold Lib.parseMag; rw [if_neg h2]
 have hv : decV (decD l) = decA 0 (decD l) := rfl
 rw [← hm, ← hv] at hp
 cases l with
 | nil => exact absurd rfl h2
 | cons c r =>
  by_cases hc : c = 45
  ·subst hc
   have e1 : decD (45 :: r) = r := rfl
   have e2 : decN (45 :: r) = -(decV r : Int) := rfl
   rw [e1] at hp
   rw [e2]
   unfold Lib.atoiAll
   have t2 : (45 : UInt8).toNat = 45 := rfl
   simp only [t2, or_true, if_true]
   rcases hp with ⟨hp, hq⟩ | ⟨hp, hq⟩
   ·rw [hp]
    by_cases hb : 9223372036854775808 < decV r
    ·refine .inr ⟨by simp [hb], by omega⟩
    ·refine .inl ⟨by simp [hb], by omega, by omega⟩
   ·rw [hp]
    exact .inr ⟨rfl, by omega⟩
  ·have hh : ¬ (c :: r).head? = some 45 := fun e => hc (Option.some.inj e)
   have e1 : decD (c :: r) = c :: r := by unfold decD; rw [if_neg hh]
   have e2 : decN (c :: r) = (decV (c :: r) : Int) := by unfold decN; rw [if_neg hh, e1]
   rw [e1] at hp h1
   rw [e2]
   have hcd := digitB_nat.1 (by rw [List.all_cons, Bool.and_eq_true] at h1; exact h1.1)
   have t1 : ¬ c.toNat = 43 := by omega
   have t2 : ¬ c.toNat = 45 := by omega
   unfold Lib.atoiAll
   simp only [t1, t2, or_self, if_false]
   rcases hp with ⟨hp, hq⟩ | ⟨hp, hq⟩
   ·rw [hp]
    by_cases hb : 9223372036854775808 ≤ decV (c :: r)
    ·refine .inr ⟨by simp [hb], by omega⟩
    ·refine .inl ⟨by simp [hb], by omega, by omega⟩
   ·rw [hp]
    exact .inr ⟨rfl, by omega⟩
def StrB (w : World) (l : List UInt8) (e : Ending) (w' : World) : Prop := e = .returned (.string (ba l)) ∧ Below w.heap.size w w'
theorem smallB_yes {c : UInt8} (h : 65 ≤ (c.toNat : Int) ∧ (c.toNat : Int) ≤ 90) : smallB c = UInt8.ofNat (c.toNat + 32) := by
 unfold smallB
 have h1 : 65 ≤ c ∧ c ≤ 90 := by
  rw [UInt8.le_iff_toNat_le, UInt8.le_iff_toNat_le]
  show (65 : Nat) ≤ _ ∧ _ ≤ (90 : Nat)
  omega
 rw [if_pos h1]
 apply UInt8.toNat_inj.1
 rw [UInt8.toNat_add]
 simp
theorem smallB_no {c : UInt8} (h : ¬ (65 ≤ (c.toNat : Int) ∧ (c.toNat : Int) ≤ 90)) : smallB c = c := by
 unfold smallB
 have h1 : ¬ (65 ≤ c ∧ c ≤ 90) := by
  rw [UInt8.le_iff_toNat_le, UInt8.le_iff_toNat_le]
  show ¬ ((65 : Nat) ≤ _ ∧ _ ≤ (90 : Nat))
  omega
 rw [if_neg h1]
structure SmRel (w : World) (l : List UInt8) (k : Nat) (wr : World) : Prop where
 row : ByteRow wr w.heap.size (smallP (l.take k) ++ l.drop k)
 bel : Below w.heap.size w wr
theorem sm_len (l : List UInt8) (k : Nat) : (smallP (l.take k) ++ l.drop k).length = l.length := by
 rw [List.length_append, smallP_len, List.length_take, List.length_drop]
 omega
theorem sm_get {l : List UInt8} {k : Nat} (hk : k < l.length) (h : k < (smallP (l.take k) ++ l.drop k).length) : (smallP (l.take k) ++ l.drop k)[k] = l[k] := by
 rw [List.getElem_append_right (by rw [smallP_len, List.length_take]; omega)]
 simp only [smallP_len, List.length_take, List.getElem_drop]
 congr 1
 omega
theorem sm_step {l : List UInt8} {k : Nat} (hk : k < l.length) : smallP (l.take (k + 1)) ++ l.drop (k + 1) = (smallP (l.take k) ++ l.drop k).set k (smallB l[k]) := by
 rw [List.take_succ_eq_append_getElem hk]
 have e1 : smallP (l.take k ++ [l[k]]) = smallP (l.take k) ++ [smallB l[k]] := by unfold smallP; rw [List.map_append]; rfl
 have e2 : l.drop k = l[k] :: l.drop (k + 1) := List.drop_eq_getElem_cons hk
 have e3 : k - (smallP (l.take k)).length = 0 := by rw [smallP_len, List.length_take]; omega
 rw [e1, List.set_append_right _ _ (by rw [smallP_len, List.length_take]; omega), e3]
 conv => rhs; rw [e2]
 rw [List.append_assoc]
 rfl
theorem sm_same {l : List UInt8} {k : Nat} (hk : k < l.length) (h : smallB l[k] = l[k]) : smallP (l.take (k + 1)) ++ l.drop (k + 1) = smallP (l.take k) ++ l.drop k := by
 rw [sm_step hk, h]
 have h1 : k < (smallP (l.take k) ++ l.drop k).length := by rw [sm_len]; exact hk
 have := sm_get hk h1
 rw [← this, List.set_getElem_self]
set_option maxRecDepth 100000 in
theorem csmall_any (l : List UInt8) (w : World) (hl : l.length ≤ 1000000000) :
  Calls Tryz.prog 90 #[.string (ba l)] w (StrB w (smallP l)) := by
 have hcv := fun (W : World) (S : ByteArray) => run_bytes_of_string (P := Tryz.prog) W 9 62 5 S Tryz.underlying9 Tryz.underlying62 Tryz.underlying5
 have HR0 := Lib.hid (fun (cap m : Nat) (hm : l.length ≤ m) => ByteRow.of_string w l cap 5 m hm)
 obtain ⟨n, hn⟩ : ∃ n, l.length = n := ⟨_, rfl⟩
 have HL := Lib.hid hn
 obtain ⟨s, hs⟩ : ∃ s, ba l = s := ⟨_, rfl⟩
 have HS := Lib.hid hs
 have HZ := Lib.hid (show s.size = n by rw [← hs, ba_size, hn])
 have hsz : (s.size : Int) = n := by rw [HZ.out]
 rw [hs]
 rw [hn] at hl
 clear hs hn
 rw [HS.out] at HR0
 go_enter Tryz.func90, Tryz.ntmps90
 go_wp2
 obtain ⟨C, hC⟩ : ∃ C, grownCap w s.size 0 5 = C := ⟨_, rfl⟩
 have HCN := Lib.hid (show l.length ≤ (bytesRow s C).size by rw [bytesRow_size s C (by rw [← hC]; have := grownCap_ge w s.size 0 5; omega), ← hC, HL.out]; have := grownCap_ge w s.size 0 5; omega)
 rw [hC]
 clear hC hcv
 go_loopw [10] (fun i wr => ∃ k : Nat, k ≤ n ∧ i = .int .i64 (k : Int) ∧ Hid (SmRel w l k wr)) (fun i _ => n - (intOf i).toNat)
 case atStart =>
  refine ⟨0, Nat.zero_le _, rfl, Lib.hid ⟨?_, (Below.refl _ _).drew.alloc (Nat.le_refl _) _⟩⟩
  rw [show smallP (l.take 0) ++ l.drop 0 = l from rfl]
  exact (HR0.out C _ HCN.out).drew
 case round =>
  obtain ⟨k, hk, rfl, HR⟩ := hrel
  have hsz2 := HR.out.bel.size
  by_cases hlt : k < n
  ·have hk2 : (k : Int) < (n : Int) := by omega
   have hk3 : (k : Int) < (s.size : Int) := by omega
   have hk0 : (0 : Int) ≤ (k : Int) := by omega
   have hkl : k < l.length := by rw [HL.out]; exact hlt
   have hks : k < (smallP (l.take k) ++ l.drop k).length := by rw [sm_len]; exact hkl
   have hcell := HR.out.row.cell hks
   have hfree := HR.out.row.free hks
   rw [sm_get hkl hks] at hcell
   have HST := Lib.hid (sm_step hkl)
   have HSA := Lib.hid (sm_same hkl)
   have HSET := Lib.hid (HR.out.row.set hks (smallB l[k]))
   obtain ⟨c, hc⟩ : ∃ c, l[k] = c := ⟨_, rfl⟩
   rw [hc] at hcell HST HSA HSET
   have HY := Lib.hid (smallB_yes (c := c))
   have HNO := Lib.hid (smallB_no (c := c))
   obtain ⟨x, hx⟩ : ∃ x : Int, (c.toNat : Int) = x := ⟨_, rfl⟩
   rw [hx] at hcell HY HNO
   have hx0 : 0 ≤ x := by omega
   have hx1 : x ≤ 255 := by have := c.toNat_lt; omega
   have HX := Lib.hid hx
   clear hc hkl hks hx
   by_cases e1 : 65 ≤ x
   ·by_cases e2 : x ≤ 90
    ·have g1 : decide (65 ≤ x) = true := decide_eq_true e1
     have g2 : decide (x ≤ 90) = true := decide_eq_true e2
     have HV := Lib.hid (show (smallB c).toNat = x + 32 by rw [HY.out ⟨e1, e2⟩]; have := HX.out; have := c.toNat_lt; simp; omega)
     go_wp2
     go_roundw
     case rel =>
      refine ⟨k + 1, by omega, by go_num, Lib.hid ⟨?_, HR.out.bel.setCell (Nat.le_refl _) _⟩⟩
      rw [HST.out]
      have := HSET.out
      rw [HV.out] at this
      exact this
     case measure => simp [intOf] <;> omega
    ·have g1 : decide (65 ≤ x) = true := decide_eq_true e1
     have g2 : decide (x ≤ 90) = false := decide_eq_false e2
     have HV := Lib.hid (HSA.out (HNO.out fun h => e2 h.2))
     clear hfree
     go_wp2
     go_roundw
     case rel =>
      refine ⟨k + 1, by omega, by go_num, Lib.hid ⟨?_, HR.out.bel⟩⟩
      rw [HV.out]
      exact HR.out.row
     case measure => simp [intOf] <;> omega
   ·have g1 : decide (65 ≤ x) = false := decide_eq_false e1
    have HV := Lib.hid (HSA.out (HNO.out fun h => e1 h.1))
    clear hfree
    go_wp2
    go_roundw
    case rel =>
     refine ⟨k + 1, by omega, by go_num, Lib.hid ⟨?_, HR.out.bel⟩⟩
     rw [HV.out]
     exact HR.out.row
    case measure => simp [intOf] <;> omega
  ·obtain rfl : k = n := by omega
   have hrow : ByteRow wr w.heap.size (smallP l) := by
    have := HR.out.row
    rw [List.take_of_length_le (by rw [HL.out]; exact Nat.le_refl _), List.drop_of_length_le (by rw [HL.out]; exact Nat.le_refl _), List.append_nil] at this
    exact this
   have hback := run_convert_bytes_back (P := Tryz.prog) wr 62 9 5 ⟨w.heap.size, 0, none⟩ C (smallP l) Tryz.underlying62 Tryz.underlying5 Tryz.underlying9 hrow.cells
   rw [smallP_len, HL.out, ← HZ.out] at hback
   clear hrow hsz
   go_wp2
   go_ret
   exact ⟨rfl, HR.out.bel⟩
end Go.Proofs.YthidbmeaccpjdaaGreatDoor
