/- Layer 10: the contract of Value. Layer 1: the contract of Hex. Layer 1: the contract of Unhex. Layer 1: the contract of Parse. Layer 4: the contracts of next and Runes; what the package variables hold. -/
import Derived.Deep.QuietTactic
import Derived.IntWalk
import Derived.BigQuiet
import Derived.Test.YthidbmeaccpjdaaGreatDoorShelfP
import Derived.Lib.OthersKept
import Derived.Shelf.Unicode.DecodeSlow
import Derived.Test.YthidbmeaccpjdaaGreatDoorM03
import Derived.Test.YthidbmeaccpjdaaGreatDoorM04
import Derived.Test.YthidbmeaccpjdaaGreatDoorM05
import Derived.Test.YthidbmeaccpjdaaGreatDoorM01
import Derived.Test.YthidbmeaccpjdaaGreatDoorM02
section
namespace Go.Proofs.YthidbmeaccpjdaaGreatDoor
open Go.RowKit
set_option linter.unusedVariables false
theorem KeptA.row {w w' : World} {b k0 : Nat} {l : List UInt8} (h : KeptA w w' b k0) (hb : k0 ≠ b) (hr : ByteRow w k0 l) : ByteRow w' k0 l := hr.kept (h k0 (Nat.le_refl _) hb)
structure VRel (w : World) (b : Nat) (q : List UInt8) (k : Nat) (f : Bool) (wr : World) : Prop where
 ex : ∃ acc, BldA wr (b + 1) (b + 1 + 1) acc ∧ acc ++ unescF f (q.drop k) = unescP q ∧ acc.length ≤ k
 row : ByteRow wr (b + 1 + 1) q
 bel : Below b w wr
theorem tvalue_short (t : Tok) (w : World) (h : (t.kind ≠ 2 ∧ t.kind ≠ 3) ∨ t.text.length < 2) :
  Calls Tryz.prog 244 #[.agg #[.int .i64 t.kind, .string (ba t.text)]] w (StrB w (meanP t)) := by
 have HM := Lib.hid (show meanP t = t.text by unfold meanP; rw [if_pos h])
 by_cases e2 : t.kind ≠ 2 ∧ t.kind ≠ 3
 ·have g2 : (t.kind != 2) = true := by simpa using e2.1
  have g3 : (t.kind != 3) = true := by simpa using e2.2
  clear e2 h
  go_enter Tryz.func244, Tryz.ntmps244
  go_wp2
  go_ret
  exact str_fin (by rw [HM.out]) ((Below.refl _ _).alloc (Nat.le_refl _) _)
 have e1 : t.text.length < 2 := h.resolve_left e2
 have hsz : ((ba t.text).size : Int) < 2 := by rw [ba_size]; omega
 by_cases e3 : t.kind = 2
 ·have g2 : (t.kind != 2) = false := by simp [e3]
  clear e2 e1 e3 h
  go_enter Tryz.func244, Tryz.ntmps244
  go_wp2
  go_ret
  exact str_fin (by rw [HM.out]) ((Below.refl _ _).alloc (Nat.le_refl _) _)
 ·have g2 : (t.kind != 2) = true := by simpa using e3
  have e4 : t.kind = 3 := by
   by_cases h : t.kind = 3
   ·exact h
   ·exact absurd ⟨e3, h⟩ e2
  have g3 : (t.kind != 3) = false := by simp [e4]
  clear e2 e1 e3 e4 h
  go_enter Tryz.func244, Tryz.ntmps244
  go_wp2
  go_ret
  exact str_fin (by rw [HM.out]) ((Below.refl _ _).alloc (Nat.le_refl _) _)
set_option maxRecDepth 100000 in
set_option maxHeartbeats 4000000 in
theorem tvalue_long (t : Tok) (w : World) (hl : t.text.length ≤ 1000000000) (h : t.kind = 2 ∨ t.kind = 3) (h2 : 2 ≤ t.text.length) :
  Calls Tryz.prog 244 #[.agg #[.int .i64 t.kind, .string (ba t.text)]] w (StrB w (meanP t)) := by
 have HM := Lib.hid (show meanP t = unescP ((t.text.drop 1).take (t.text.length - 2)) by
  unfold meanP
  rw [if_neg (fun hh => by rcases hh with hh | hh; exact h.elim hh.1 hh.2; omega)])
 have HQ := Lib.hid (inner_eq t.text h2)
 obtain ⟨q, hq⟩ : ∃ q, (t.text.drop 1).take (t.text.length - 2) = q := ⟨_, rfl⟩
 have hqn : q.length ≤ 1000000000 := by rw [← hq, List.length_take, List.length_drop]; omega
 have hqs : (ba t.text).size - 1 - 1 = q.length := by rw [← hq, List.length_take, List.length_drop, ba_size]; omega
 rw [hq] at HQ HM
 clear hq
 have hsz : ¬ ((ba t.text).size : Int) < 2 := by rw [ba_size]; omega
 have hsz2 : (2 : Int) ≤ ((ba t.text).size : Int) := by omega
 have hsz3 : ((ba t.text).size : Int) ≤ 1000000000 := by rw [ba_size]; omega
 have g : (t.kind = 2 ∧ (t.kind != 2) = false) ∨ ((t.kind != 2) = true ∧ (t.kind != 3) = false) := by
  rcases h with h | h
  ·exact .inl ⟨h, by simp [h]⟩
  ·exact .inr ⟨by simp [h], by simp [h]⟩
 have hne0 : (t.kind != 2) = false ∨ ((t.kind != 2) = true ∧ (t.kind != 3) = false) := g.imp And.right id
 clear h h2 hl g
 have hbox := Lib.hid (bld_new (w.alloc (.cells #[.int .i64 t.kind, .string (ba t.text)] 94)))
 obtain ⟨s0, hs0⟩ : ∃ s, ba t.text = s := ⟨_, rfl⟩
 rw [hs0] at HQ hsz hsz2 hsz3 hqs
 rw [hs0]
 obtain ⟨n, hn⟩ : ∃ n, q.length = n := ⟨_, rfl⟩
 have HL := Lib.hid hn
 have HQS := Lib.hid (hqs.trans hn)
 rw [hn] at hqn
 have hcv := fun (W : World) (S : ByteArray) => run_bytes_of_string (P := Tryz.prog) W 9 62 5 S Tryz.underlying9 Tryz.underlying62 Tryz.underlying5
 have HROW := Lib.hid (fun (W : World) (cap m : Nat) (hm : q.length ≤ m) => ByteRow.of_string W q cap 5 m hm)
 clear hs0 hn hqs hbox
 rcases hne0 with g2 | ⟨g2, g3⟩
 all_goals
  go_enter Tryz.func244, Tryz.ntmps244
  go_wp2
  rw [HQ.out, HQS.out]
  obtain ⟨C, hC⟩ : ∃ C, grownCap ((w.alloc (.cells #[.int .i64 t.kind, .string s0] 94)).alloc (.cells #[.pointer none, .slice none 0 0] 64)) n 0 5 = C := ⟨_, rfl⟩
  have HCN := Lib.hid (show q.length ≤ (bytesRow (ba q) C).size by rw [bytesRow_size (ba q) C (by rw [← hC, ba_size, HL.out]; exact grownCap_ge _ _ _ _), ← hC, HL.out]; exact grownCap_ge _ _ _ _)
  rw [hC]
  clear hC
  go_loopw [5, 32] (fun f i wr => ∃ (k : Nat) (fl : Bool), k ≤ n ∧ i = .int .i64 (k : Int) ∧ f = .bool fl ∧ Hid (VRel w w.heap.size q k fl wr)) (fun _ i _ => n - (intOf i).toNat)
  case atStart =>
   refine ⟨0, false, Nat.zero_le _, rfl, rfl, Lib.hid ⟨⟨[], ?_, ?_, Nat.le_refl _⟩, ?_, ?_⟩⟩
   ·refine BldA.new ?_ (by omega) (by simp)
    have h1 := (MapKept.heap_alloc (w.alloc (.cells #[.int .i64 t.kind, .string s0] 94)) (.cells #[.pointer none, .slice none 0 0] 64)).1
    simp only [World.size_alloc] at h1
    exact (heap_alloc_old _ _ (by simp)).trans h1
   ·exact (unescF_eq q)
   ·have := HROW.out ((w.alloc (.cells #[.int .i64 t.kind, .string s0] 94)).alloc (.cells #[.pointer none, .slice none 0 0] 64)) C _ HCN.out
    simp only [World.size_alloc] at this
    exact this
   ·exact ((((Below.refl _ _).alloc (Nat.le_refl _) _).alloc (by simp) _).alloc (by simp; omega) _).drew
  case round =>
   obtain ⟨k, fl, hk, rfl, rfl, HR⟩ := hrel
   obtain ⟨⟨acc, hbld, heq, hal⟩, hrow, hbel⟩ := HR.out
   have hB := hbel.size
   have HBLD := Lib.hid hbld
   have HROWR := Lib.hid hrow
   have HBEL := Lib.hid hbel
   have HAK := Lib.hid hal
   have hacl : acc.length ≤ 1000000000 := by omega
   have HEQ0 := Lib.hid heq
   clear HR hbld hrow hbel hal heq
   by_cases hlt : k < n
   ·have hk2 : (k : Int) < (n : Int) := by omega
    have hk0 : (0 : Int) ≤ (k : Int) := by omega
    have hkl : k < q.length := by rw [HL.out]; omega
    have hcell := HROWR.out.cell hkl
    have heq := HEQ0.out
    rw [List.drop_eq_getElem_cons hkl] at heq
    have HEQ := Lib.hid heq
    clear heq
    obtain ⟨c, hc⟩ : ∃ c, q[k] = c := ⟨_, rfl⟩
    rw [hc] at hcell HEQ
    obtain ⟨x, hx⟩ : ∃ x : Int, (c.toNat : Int) = x := ⟨_, rfl⟩
    have HX := Lib.hid hx
    have hwr : ∀ (A B : Nat) (hb : BldA wr A B acc), acc.length + 1 ≤ 140737488355328 → Calls Tryz.prog 56 #[.pointer (some ⟨A, 0, none⟩), .int .u8 x] wr (WroteA wr A B (acc ++ [c]) .nilIface) := fun A B hb hl => by
     rw [← hx]
     exact write_byteA A B acc c wr hb hl
    have HWR := Lib.hid (hwr _ _ HBLD.out (by omega))
    rw [hx] at hcell
    clear hc hkl hx hwr
    cases fl
    ·by_cases e1 : x = 92
     ·have g1 : (x == 92) = true := by simpa using e1
      have HE := Lib.hid (show acc ++ unescF true (q.drop (k + 1)) = unescP q by
       have h := HEQ.out
       unfold unescF at h
       rw [if_pos (u8_int_eq.1 (by rw [HX.out]; exact e1))] at h
       exact h)
      clear e1
      go_wp2
      go_roundw
      case rel => exact ⟨k + 1, true, by omega, by go_num, rfl, Lib.hid ⟨⟨acc, HBLD.out, HE.out, by have := HAK.out; omega⟩, HROWR.out, HBEL.out⟩⟩
      case measure => simp [intOf] <;> omega
     have g1 : (x == 92) = false := by simpa using e1
     have HC := Lib.hid (show ¬ c = 92 from fun h => e1 (by rw [← HX.out, h]; rfl))
     clear e1
     by_cases e2 : x = 10 ∨ x = 13
     ·have HE := Lib.hid (show acc ++ unescF false (q.drop (k + 1)) = unescP q by
       have h := HEQ.out
       unfold unescF at h
       rw [if_neg HC.out, if_pos (e2.imp (fun h => u8_int_eq.1 (by rw [HX.out]; exact h)) (fun h => u8_int_eq.1 (by rw [HX.out]; exact h)))] at h
       exact h)
      have g4 : (x != 10) = false ∨ ((x != 10) = true ∧ (x != 13) = false) := by
       rcases e2 with h | h
       ·exact .inl (by simp [h])
       ·exact .inr ⟨by simp [h], by simp [h]⟩
      clear e2
      rcases g4 with g4 | ⟨g4, g5⟩
      all_goals
       go_wp2
       go_roundw
       case rel => exact ⟨k + 1, false, by omega, by go_num, rfl, Lib.hid ⟨⟨acc, HBLD.out, HE.out, by have := HAK.out; omega⟩, HROWR.out, HBEL.out⟩⟩
       case measure => simp [intOf] <;> omega
     have HE := Lib.hid (show acc ++ c :: unescF false (q.drop (k + 1)) = unescP q by
      have h := HEQ.out
      unfold unescF at h
      rw [if_neg HC.out, if_neg (fun h => e2 (h.imp (fun h => by rw [← HX.out, h]; rfl) (fun h => by rw [← HX.out, h]; rfl)))] at h
      exact h)
     have g4 : (x != 10) = true := by
      have : ¬ x = 10 := fun h => e2 (.inl h)
      simpa using this
     have g5 : (x != 13) = true := by
      have : ¬ x = 13 := fun h => e2 (.inr h)
      simpa using this
     clear e2
     go_wp2_with fail
     refine HWR.out.mono ?_
     rintro e w2 ⟨rfl, hA⟩
     have HA := Lib.hid hA
     clear hA
     go_wp2
     go_roundw
     case rel =>
      refine ⟨k + 1, false, by omega, by go_num, rfl, Lib.hid ⟨⟨_, HA.out.1, ?_, ?_⟩, HA.out.2.2.row (by omega) HROWR.out, HBEL.out.trans (HA.out.2.1.mono (by omega))⟩⟩
      ·have := HE.out
       rw [List.append_assoc]
       exact this
      ·have := HAK.out
       rw [List.length_append]
       show acc.length + 1 ≤ k + 1
       omega
     case measure => simp [intOf] <;> omega
    ·have HE := Lib.hid (show acc ++ c :: unescF false (q.drop (k + 1)) = unescP q by
      have h := HEQ.out
      unfold unescF at h
      exact h)
     go_wp2_with fail
     refine HWR.out.mono ?_
     rintro e w2 ⟨rfl, hA⟩
     have HA := Lib.hid hA
     clear hA
     go_wp2
     go_roundw
     case rel =>
      refine ⟨k + 1, false, by omega, by go_num, rfl, Lib.hid ⟨⟨_, HA.out.1, ?_, ?_⟩, HA.out.2.2.row (by omega) HROWR.out, HBEL.out.trans (HA.out.2.1.mono (by omega))⟩⟩
      ·have := HE.out
       rw [List.append_assoc]
       exact this
      ·have := HAK.out
       rw [List.length_append]
       show acc.length + 1 ≤ k + 1
       omega
     case measure => simp [intOf] <;> omega
   ·have hk2 : ¬ (k : Int) < (n : Int) := by omega
    have hacc : acc = unescP q := by
     have := HEQ0.out
     rw [List.drop_of_length_le (by rw [HL.out]; omega)] at this
     have h0 : unescF fl [] = [] := by unfold unescF; rfl
     rw [h0, List.append_nil] at this
     exact this
    have HACC := Lib.hid hacc
    clear hacc
    go_wp2_with fail
    refine (bld_string _ _ acc wr HBLD.out.bld (by have := HBLD.out.lt; omega)).mono ?_
    rintro e w2 ⟨rfl, hW⟩
    have HW := Lib.hid hW
    clear hW
    go_wp2
    go_ret
    exact str_fin (by rw [HACC.out, HM.out]) (HBEL.out.trans (HW.out.bel.mono (by omega)))
theorem tvalue_any (t : Tok) (w : World) (hl : t.text.length ≤ 1000000000) :
  Calls Tryz.prog 244 #[.agg #[.int .i64 t.kind, .string (ba t.text)]] w (StrB w (meanP t)) := by
 by_cases h : (t.kind ≠ 2 ∧ t.kind ≠ 3) ∨ t.text.length < 2
 ·exact tvalue_short t w h
 ·refine tvalue_long t w hl ?_ (by omega)
  by_cases h2 : t.kind = 2
  ·exact .inl h2
  ·by_cases h3 : t.kind = 3
   ·exact .inr h3
   ·exact absurd (.inl ⟨h2, h3⟩) h
end Go.Proofs.YthidbmeaccpjdaaGreatDoor
end
section
namespace Go.Proofs.YthidbmeaccpjdaaGreatDoor
open Go.RowKit
set_option linter.unusedVariables false
def hexD (n : Nat) : UInt8 := UInt8.ofNat (if n < 10 then 48 + n else 87 + n)
def hexP (l : List UInt8) : List UInt8 := l.flatMap fun c => [hexD (c.toNat / 16), hexD (c.toNat % 16)]
theorem hexP_snoc {l : List UInt8} {k : Nat} (hk : k < l.length) : hexP (l.take (k + 1)) = hexP (l.take k) ++ [hexD (l[k].toNat / 16)] ++ [hexD (l[k].toNat % 16)] := by
 rw [List.take_succ_eq_append_getElem hk]
 unfold hexP
 rw [List.flatMap_append, List.append_assoc]
 rfl
theorem hexP_len (l : List UInt8) : (hexP l).length = 2 * l.length := by
 induction l with
 | nil => rfl
 | cons a r ih =>
  have : hexP (a :: r) = [hexD (a.toNat / 16), hexD (a.toNat % 16)] ++ hexP r := rfl
  rw [this, List.length_append, ih]
  show 2 + 2 * r.length = 2 * (r.length + 1)
  omega
theorem hexDigits_at (n : Nat) (h : n < 16) (h2 : n < (⟨#[48, 49, 50, 51, 52, 53, 54, 55, 56, 57, 97, 98, 99, 100, 101, 102]⟩ : ByteArray).size) : ((⟨#[48, 49, 50, 51, 52, 53, 54, 55, 56, 57, 97, 98, 99, 100, 101, 102]⟩ : ByteArray)[n]'h2) = hexD n := by
 revert h2
 revert n
 decide
structure BRel (w : World) (b : Nat) (acc : List UInt8) (wr : World) : Prop where
 bld : Bld wr b b acc
 bel : Below b w wr
set_option maxRecDepth 100000 in
set_option maxHeartbeats 4000000 in
theorem hex_any (l : List UInt8) (w : World) (hl : l.length ≤ 1000000000) :
  Calls Tryz.prog 144 #[.string (ba l)] w (StrB w (hexP l)) := by
 have HB0 := Lib.hid (bld_new w)
 obtain ⟨n, hn⟩ : ∃ n, l.length = n := ⟨_, rfl⟩
 have HL := Lib.hid hn
 obtain ⟨s, hs⟩ : ∃ s, ba l = s := ⟨_, rfl⟩
 have HS := Lib.hid hs
 have HZ := Lib.hid (show s.size = n by rw [← hs, ba_size, hn])
 have hsz : (s.size : Int) = n := by rw [HZ.out]
 rw [hs]
 rw [hn] at hl
 clear hs hn
 go_enter Tryz.func144, Tryz.ntmps144
 go_wp2
 go_loopw [7] (fun i wr => ∃ k : Nat, k ≤ n ∧ i = .int .i64 (k : Int) ∧ Hid (BRel w w.heap.size (hexP (l.take k)) wr)) (fun i _ => n - (intOf i).toNat)
 case atStart => exact ⟨0, Nat.zero_le _, rfl, Lib.hid ⟨HB0.out, (Below.refl _ _).alloc (Nat.le_refl _) _⟩⟩
 case round =>
  obtain ⟨k, hk, rfl, HR⟩ := hrel
  have hsz2 := HR.out.bel.size
  by_cases hlt : k < n
  ·have hk2 : (k : Int) < (n : Int) := by omega
   have hk0 : (0 : Int) ≤ (k : Int) := by omega
   have hks : k < s.size := by rw [HZ.out]; omega
   have hkl : k < l.length := by rw [HL.out]; omega
   have hget : s[k] = l[k] := by
    have h := HS.out
    subst h
    rfl
   have HP := Lib.hid (hexP_snoc hkl)
   have HLEN := Lib.hid (hexP_len (l.take k))
   have hln : (l.take k).length ≤ 1000000000 := by rw [List.length_take]; omega
   have HLN := Lib.hid hln
   clear hln
   obtain ⟨c, hc⟩ : ∃ c, l[k] = c := ⟨_, rfl⟩
   rw [hc] at hget HP
   obtain ⟨x, hx⟩ : ∃ x : Int, (c.toNat : Int) = x := ⟨_, rfl⟩
   have hgi : ((s[k]).toNat : Int) = x := by rw [hget]; exact hx
   have HX := Lib.hid hx
   have hx0 : 0 ≤ x := by omega
   have hx1 : x ≤ 255 := by have := c.toNat_lt; omega
   clear hc hkl hget hx
   have hg1 : ∀ h : (x / 16).toNat < (⟨#[48, 49, 50, 51, 52, 53, 54, 55, 56, 57, 97, 98, 99, 100, 101, 102]⟩ : ByteArray).size, (((⟨#[48, 49, 50, 51, 52, 53, 54, 55, 56, 57, 97, 98, 99, 100, 101, 102]⟩ : ByteArray)[(x / 16).toNat]'h).toNat : Int) = ((hexD (c.toNat / 16)).toNat : Int) := fun h => by
    have e : (x / 16).toNat = c.toNat / 16 := by rw [← HX.out]; omega
    rw [hexDigits_at _ (by omega) h, e]
   have hg2 : ∀ h : (x % 16).toNat < (⟨#[48, 49, 50, 51, 52, 53, 54, 55, 56, 57, 97, 98, 99, 100, 101, 102]⟩ : ByteArray).size, (((⟨#[48, 49, 50, 51, 52, 53, 54, 55, 56, 57, 97, 98, 99, 100, 101, 102]⟩ : ByteArray)[(x % 16).toNat]'h).toNat : Int) = ((hexD (c.toNat % 16)).toNat : Int) := fun h => by
    have e : (x % 16).toNat = c.toNat % 16 := by rw [← HX.out]; omega
    rw [hexDigits_at _ (by omega) h, e]
   obtain ⟨d1, hd1⟩ : ∃ d, hexD (c.toNat / 16) = d := ⟨_, rfl⟩
   obtain ⟨d2, hd2⟩ : ∃ d, hexD (c.toNat % 16) = d := ⟨_, rfl⟩
   rw [hd1, hd2] at HP
   simp only [hd1] at hg1
   simp only [hd2] at hg2
   clear hd1 hd2
   obtain ⟨acc, hacc⟩ : ∃ a, hexP (l.take k) = a := ⟨_, rfl⟩
   rw [hacc] at HP HLEN
   have hal : acc.length ≤ 2000000000 := by rw [HLEN.out]; have := HLN.out; omega
   have HBD := Lib.hid HR.out.bld
   have HBE := Lib.hid HR.out.bel
   rw [hacc] at HBD
   clear HR hacc
   go_wp2_with fail
   refine (write_byte _ _ acc d1 wr HBD.out (by omega) hsz2).mono ?_
   rintro e w2 ⟨rfl, hW⟩
   have HW := Lib.hid hW
   have hsz3 := hW.bel.size
   clear hW
   go_wp2_with fail
   refine (write_byte _ _ (acc ++ [d1]) d2 w2 HW.out.bld (by rw [List.length_append]; show _ + 1 + 1 ≤ _; omega) (by omega)).mono ?_
   rintro e w3 ⟨rfl, hW2⟩
   have HW2 := Lib.hid hW2
   clear hW2
   go_wp2
   go_roundw
   case rel =>
    refine ⟨k + 1, by omega, by go_num, Lib.hid ⟨?_, (HBE.out.trans HW.out.bel).trans HW2.out.bel⟩⟩
    rw [HP.out]
    exact HW2.out.bld
   case measure => simp [intOf] <;> omega
  ·obtain rfl : k = n := by omega
   go_wp2_with fail
   refine (bld_string _ _ _ wr HR.out.bld hsz2).mono ?_
   rintro e w2 ⟨rfl, hW⟩
   have HW := Lib.hid hW
   clear hW
   go_wp2
   go_ret
   exact str_fin (by rw [List.take_of_length_le (by rw [HL.out]; exact Nat.le_refl _)]) (HR.out.bel.trans HW.out.bel)
end Go.Proofs.YthidbmeaccpjdaaGreatDoor
end
section
namespace Go.Proofs.YthidbmeaccpjdaaGreatDoor
open Go.RowKit
set_option linter.unusedVariables false
theorem below_drewN {B : Nat} {a b : World} (h : Below B a b) (n : Nat) : Below B a (b.drewN n) := ⟨h.os, h.tape, h.output, h.size, h.block⟩
def unhexP : List UInt8 → Option (List UInt8)
 | [] => some []
 | [_] => none
 | x :: y :: r => match hexV x, hexV y with
  | some a, some b => (unhexP r).map (UInt8.ofNat (a * 16 + b) :: ·)
  | _, _ => none
def digV (c : UInt8) : Int := match hexV c with
 | some a => (a : Int)
 | none => -1
def lowF (c : UInt8) : UInt8 := if 65 ≤ c ∧ c ≤ 70 then c + 32 else c
theorem u8_all (p : UInt8 → Prop) (h : ∀ n : Fin 256, p (UInt8.ofNat n.val)) (c : UInt8) : p c := by
 have := h ⟨c.toNat, c.toNat_lt⟩
 simpa using this
theorem hexIdx (c : UInt8) : Lib.indexByte [48, 49, 50, 51, 52, 53, 54, 55, 56, 57, 97, 98, 99, 100, 101, 102] (lowF c) = digV c := u8_all (fun c => Lib.indexByte [48, 49, 50, 51, 52, 53, 54, 55, 56, 57, 97, 98, 99, 100, 101, 102] (lowF c) = digV c) (by decide +kernel) c
theorem digV_bd (c : UInt8) : -1 ≤ digV c ∧ digV c ≤ 15 := u8_all (fun c => -1 ≤ digV c ∧ digV c ≤ 15) (by decide +kernel) c
theorem digV_hex (c : UInt8) : hexV c = if digV c < 0 then none else some (digV c).toNat := by
 unfold digV
 cases h : hexV c with
 | none => rfl
 | some a =>
  show some a = if (a : Int) < 0 then none else some (a : Int).toNat
  rw [if_neg (by omega)]
  simp
theorem hindex_any (c : UInt8) (w : World) : Calls Tryz.prog 128 #[.string ⟨#[48, 49, 50, 51, 52, 53, 54, 55, 56, 57, 97, 98, 99, 100, 101, 102]⟩, .int .u8 ((lowF c).toNat : Int)] w fun e w' => e = .returned (.int .i64 (digV c)) ∧ w' = w := by
 refine (Tryz.strings_IndexByte _ ((lowF c).toNat : Int) w).mono ?_
 rintro e w' ⟨rfl, rfl⟩
 rw [u8_back, ← hexIdx]
 exact ⟨rfl, rfl⟩
theorem lowF_yes {c : UInt8} {x : Int} (hx : (c.toNat : Int) = x) (h : 65 ≤ x ∧ x ≤ 70) : ((lowF c).toNat : Int) = x + 32 := by
 unfold lowF
 have h1 : 65 ≤ c ∧ c ≤ 70 := by
  rw [UInt8.le_iff_toNat_le, UInt8.le_iff_toNat_le]
  show (65 : Nat) ≤ _ ∧ _ ≤ (70 : Nat)
  omega
 rw [if_pos h1, UInt8.toNat_add]
 show (((c.toNat + 32) % 256 : Nat) : Int) = _
 omega
theorem lowF_no {c : UInt8} {x : Int} (hx : (c.toNat : Int) = x) (h : ¬ (65 ≤ x ∧ x ≤ 70)) : ((lowF c).toNat : Int) = x := by
 unfold lowF
 have h1 : ¬ (65 ≤ c ∧ c ≤ 70) := by
  rw [UInt8.le_iff_toNat_le, UInt8.le_iff_toNat_le]
  show ¬ ((65 : Nat) ≤ _ ∧ _ ≤ (70 : Nat))
  omega
 rw [if_neg h1]
 exact hx
set_option maxRecDepth 100000 in
set_option maxHeartbeats 4000000 in
theorem digit_any (c : UInt8) (w : World) : Calls Tryz.prog 251 #[.int .u8 (c.toNat : Int)] w fun e w' => e = .returned (.int .i64 (digV c)) ∧ w' = w := by
 have hix := fun W => hindex_any c W
 obtain ⟨x, hx⟩ : ∃ x : Int, (c.toNat : Int) = x := ⟨_, rfl⟩
 have HY := Lib.hid (lowF_yes hx)
 have HN := Lib.hid (lowF_no hx)
 have hx0 : 0 ≤ x := by omega
 have hx1 : x ≤ 255 := by have := c.toNat_lt; omega
 rw [hx]
 clear hx
 by_cases e1 : 65 ≤ x
 ·have g1 : decide (65 ≤ x) = true := decide_eq_true e1
  by_cases e2 : x ≤ 70
  ·have g2 : decide (x ≤ 70) = true := decide_eq_true e2
   rw [HY.out ⟨e1, e2⟩] at hix
   have HIX := Lib.hid hix
   clear hix
   go_enter Tryz.func251, Tryz.ntmps251
   go_wp2_with fail
   refine (HIX.out _).mono ?_
   rintro e w' ⟨rfl, rfl⟩
   go_wp2
   go_ret
   exact ⟨rfl, rfl⟩
  ·have g2 : decide (x ≤ 70) = false := decide_eq_false e2
   rw [HN.out (fun h => e2 h.2)] at hix
   have HIX := Lib.hid hix
   clear hix
   go_enter Tryz.func251, Tryz.ntmps251
   go_wp2_with fail
   refine (HIX.out _).mono ?_
   rintro e w' ⟨rfl, rfl⟩
   go_wp2
   go_ret
   exact ⟨rfl, rfl⟩
 ·have g1 : decide (65 ≤ x) = false := decide_eq_false e1
  rw [HN.out (fun h => e1 h.1)] at hix
  have HIX := Lib.hid hix
  clear hix
  go_enter Tryz.func251, Tryz.ntmps251
  go_wp2_with fail
  refine (HIX.out _).mono ?_
  rintro e w' ⟨rfl, rfl⟩
  go_wp2
  go_ret
  exact ⟨rfl, rfl⟩
theorem bits16 {a b : Int} (h1 : 0 ≤ a) (h2 : a ≤ 15) (h3 : 0 ≤ b) (h4 : b ≤ 15) : bits BinOp.or IntKind.i64 (a * 16) b % 256 = a * 16 + b := by
 have h : ∀ x y : Fin 16, bits BinOp.or IntKind.i64 ((x.val : Int) * 16) (y.val : Int) % 256 = (x.val : Int) * 16 + (y.val : Int) := by decide +kernel
 have := h ⟨a.toNat, by omega⟩ ⟨b.toNat, by omega⟩
 simp only [Int.toNat_of_nonneg h1, Int.toNat_of_nonneg h3] at this
 exact this
theorem make_bytes {m : Nat} (hm : m < 1099511627776) (W : World) : (Instr.makeSlice 62 (.int .i64 (m : Int)) (.int .i64 (m : Int))).run Tryz.prog W = .ok (.slice (some ⟨W.heap.size, 0, none⟩) m m) (W.alloc (.cells (madeCells #[.int .u8 0] m) 5)) := by
 obtain ⟨i0, hi, hz0, hz1, hz2⟩ := info_parts info_u8
 have := run_make (P := Tryz.prog) W 62 5 i0 (.int .u8 0) Tryz.underlying62 hi hz0 .i64 .i64 (m : Int) (m : Int) (by omega) (by omega) (by rw [hz2]; omega) (by omega)
 rw [this, hz1, Nat.mul_one]
 rfl
theorem ByteRow.made (W : World) (m : Nat) (T : TypeId) : ByteRow (W.alloc (.cells (madeCells #[.int .u8 0] m) T)) W.heap.size (List.replicate m 0) := by
 refine ⟨madeCells #[.int .u8 0] m, T, (0, 0), ?_, fun j hj => ?_, .inr rfl⟩
 ·show (W.heap.push _)[W.heap.size]? = _
  simp
 ·rw [List.length_replicate] at hj
  rw [List.getElem_replicate]
  simp [madeCells, hj, Nat.mod_one]
def UnhexPost (w : World) (l : List UInt8) (e : Ending) (w' : World) : Prop := e = .returned (.tuple #[.string (ba ((unhexP l).getD [])), .bool (unhexP l).isSome]) ∧ Below w.heap.size w w'
theorem unhex_odd : ∀ l : List UInt8, l.length % 2 = 1 → unhexP l = none
 | [], h => by simp at h
 | [_], _ => rfl
 | x :: y :: r, h => by
  unfold unhexP
  rw [unhex_odd r (by simp at h; omega)]
  split <;> rfl
theorem unhex_len : ∀ (l a : List UInt8), unhexP l = some a → 2 * a.length = l.length
 | [], a, h => by injection h with h; subst h; rfl
 | [_], a, h => by cases h
 | x :: y :: r, a, h => by
  unfold unhexP at h
  split at h
  ·obtain ⟨b, hb, rfl⟩ := Option.map_eq_some_iff.1 h
   have := unhex_len r b hb
   simp only [List.length_cons]
   omega
  ·cases h
theorem unhex_cons {l : List UInt8} {k : Nat} (hk : 2 * k + 1 < l.length) : unhexP (l.drop (2 * k)) = match hexV l[2 * k], hexV l[2 * k + 1] with
  | some a, some b => (unhexP (l.drop (2 * (k + 1)))).map (UInt8.ofNat (a * 16 + b) :: ·)
  | _, _ => none := by
 rw [List.drop_eq_getElem_cons (by omega : 2 * k < l.length), List.drop_eq_getElem_cons hk]
 conv => lhs; unfold unhexP
 rw [show 2 * (k + 1) = 2 * k + 1 + 1 by omega]
def UhRel (w : World) (l : List UInt8) (m k : Nat) (wr : World) : Prop :=
 ∃ acc, acc.length = k ∧ ByteRow wr w.heap.size (acc ++ List.replicate (m - k) 0) ∧ unhexP l = (unhexP (l.drop (2 * k))).map (acc ++ ·) ∧ Below w.heap.size w wr
set_option maxRecDepth 100000 in
set_option maxHeartbeats 4000000 in
theorem unhex_any (l : List UInt8) (w : World) (hl : l.length ≤ 1000000000) :
  Calls Tryz.prog 206 #[.string (ba l)] w (UnhexPost w l) := by
 obtain ⟨n, hn⟩ : ∃ n, l.length = n := ⟨_, rfl⟩
 have HL := Lib.hid hn
 obtain ⟨s, hs⟩ : ∃ s, ba l = s := ⟨_, rfl⟩
 have HS := Lib.hid hs
 have HZ := Lib.hid (show s.size = n by rw [← hs, ba_size, hn])
 have hsz : (s.size : Int) = n := by rw [HZ.out]
 rw [hs]
 rw [hn] at hl
 clear hs hn
 by_cases hodd : n % 2 = 1
 ·have HV := Lib.hid (unhex_odd l (by rw [HL.out]; exact hodd))
  have ho : (n : Int) % 2 = 1 := by omega
  clear hodd
  go_enter Tryz.func206, Tryz.ntmps206
  go_wp2
  go_ret2
  unfold UnhexPost
  rw [HV.out]
  exact ⟨rfl, Below.refl _ _⟩
 obtain ⟨m, hm⟩ : ∃ m, n = 2 * m := ⟨n / 2, by omega⟩
 have hml : m ≤ 1000000000 := by omega
 have ho : (n : Int) % 2 = 0 := by omega
 have hq : (n : Int) / 2 = (m : Int) := by omega
 have HNM := Lib.hid hm
 clear hodd
 have hmk := make_bytes (m := m) (by omega)
 clear hm
 have HROW := Lib.hid (ByteRow.made w m 5)
 go_enter Tryz.func206, Tryz.ntmps206
 go_wp2
 clear ho hq hsz
 go_loopw [19] (fun i wr => ∃ k : Nat, k ≤ m ∧ i = .int .i64 (k : Int) ∧ Hid (UhRel w l m k wr)) (fun i _ => m - (intOf i).toNat)
 case atStart => exact ⟨0, Nat.zero_le _, rfl, Lib.hid ⟨[], rfl, HROW.out, by simp, (Below.refl _ _).alloc (Nat.le_refl _) _⟩⟩
 case round =>
  obtain ⟨k, hk, rfl, HR⟩ := hrel
  obtain ⟨acc, hal, hrow, heq, hbel⟩ := HR.out
  have hsz2 := hbel.size
  have HAL := Lib.hid hal
  have HRW := Lib.hid hrow
  have HEQ0 := Lib.hid heq
  have HBE := Lib.hid hbel
  clear HR hal hrow heq hbel hmk
  by_cases hlt : k < m
  ·have hk2 : (k : Int) < (m : Int) := by omega
   have hk0 : (0 : Int) ≤ (k : Int) := by omega
   have hnm := HNM.out
   have hkl : 2 * k < l.length := by rw [HL.out]; omega
   have hkl2 : 2 * k + 1 < l.length := by rw [HL.out]; omega
   have hge1 : s[2 * k]'(by rw [HZ.out]; omega) = l[2 * k] := by
    have h := HS.out
    subst h
    rfl
   have hge2 : s[2 * k + 1]'(by rw [HZ.out]; omega) = l[2 * k + 1] := by
    have h := HS.out
    subst h
    rfl
   have HUC := Lib.hid (unhex_cons hkl2)
   obtain ⟨c, hc⟩ : ∃ c, l[2 * k] = c := ⟨_, rfl⟩
   obtain ⟨d, hd⟩ : ∃ d, l[2 * k + 1] = d := ⟨_, rfl⟩
   rw [hc] at hge1 HUC
   rw [hd] at hge2 HUC
   obtain ⟨x, hx⟩ : ∃ x : Int, (c.toNat : Int) = x := ⟨_, rfl⟩
   obtain ⟨y, hy⟩ : ∃ x : Int, (d.toNat : Int) = x := ⟨_, rfl⟩
   have hD1 := digit_any c
   have hD2 := digit_any d
   rw [hx] at hD1
   rw [hy] at hD2
   have hgi1 : ∀ h : 2 * k < s.size, ((s[2 * k]'h).toNat : Int) = x := fun h => by rw [hge1]; exact hx
   have hgi2 : ∀ h : 2 * k + 1 < s.size, ((s[2 * k + 1]'h).toNat : Int) = y := fun h => by rw [hge2]; exact hy
   have HB1 := digV_bd c
   have HB2 := digV_bd d
   have HV1 := Lib.hid (digV_hex c)
   have HV2 := Lib.hid (digV_hex d)
   obtain ⟨v1, hv1⟩ : ∃ v, digV c = v := ⟨_, rfl⟩
   obtain ⟨v2, hv2⟩ : ∃ v, digV d = v := ⟨_, rfl⟩
   simp only [hv1] at hD1 HB1 HV1
   simp only [hv2] at hD2 HB2 HV2
   have HD1 := Lib.hid hD1
   have HD2 := Lib.hid hD2
   clear hc hd hkl hkl2 hx hy hge1 hge2 hv1 hv2 hD1 hD2
   have hs1 : 2 * (k : Int) < (s.size : Int) := by rw [HZ.out, hnm]; omega
   have hs2 : 2 * (k : Int) + 1 < (s.size : Int) := by rw [HZ.out, hnm]; omega
   clear hnm
   have hs3 : (0 : Int) ≤ 2 * (k : Int) := by omega
   have hs4 : (0 : Int) ≤ 2 * (k : Int) + 1 := by omega
   have hw1 : IntKind.i64.wrap (2 * (k : Int)) = 2 * (k : Int) := IntWalk.i64_in _ (by omega)
   have hw2 : IntKind.i64.wrap (2 * (k : Int) + 1) = 2 * (k : Int) + 1 := IntWalk.i64_in _ (by omega)
   have ht1 : (2 * (k : Int)).toNat = 2 * k := by omega
   have ht2 : (2 * (k : Int) + 1).toNat = 2 * k + 1 := by omega
   go_wp2
   refine wp_region_quiet_lit (by kernel_rfl) (by kernel_rfl) ?_
   repeat (go_big_quiet_step (fail))
   go_big_quiet_step (exact Calls.quiet_of_same (HD1.out _))
   repeat (go_big_quiet_step (fail))
   go_big_quiet_step (exact Calls.quiet_of_same (HD2.out _))
   repeat (go_big_quiet_step (fail))
   refine wpQuiet_nil ?_
   intro _ hw'
   obtain ⟨nq, hw''⟩ := hw'
   subst hw''
   clear hs1 hs2 hs3 hs4 hw1 hw2 ht1 ht2 hgi1 hgi2
   by_cases e1 : v1 < 0
   ·have g1 : decide (v1 < 0) = true := decide_eq_true e1
    have HV := Lib.hid (show unhexP l = none by
     rw [HEQ0.out, HUC.out, HV1.out, if_pos e1]
     rfl)
    clear e1
    go_wp2
    go_ret2
    unfold UnhexPost
    rw [HV.out]
    exact ⟨rfl, below_drewN HBE.out nq⟩
   have g1 : decide (v1 < 0) = false := decide_eq_false e1
   by_cases e2 : v2 < 0
   ·have g2 : decide (v2 < 0) = true := decide_eq_true e2
    have HV := Lib.hid (show unhexP l = none by
     rw [HEQ0.out, HUC.out, HV1.out, HV2.out, if_neg e1, if_pos e2]
     rfl)
    clear e1 e2
    go_wp2
    go_ret2
    unfold UnhexPost
    rw [HV.out]
    exact ⟨rfl, below_drewN HBE.out nq⟩
   have g2 : decide (v2 < 0) = false := decide_eq_false e2
   have hv1 : 0 ≤ v1 := by omega
   have hv2 : 0 ≤ v2 := by omega
   have hv3 : v1 ≤ 15 := HB1.2
   have hv4 : v2 ≤ 15 := HB2.2
   obtain ⟨z, hz⟩ : ∃ z : UInt8, UInt8.ofNat (v1.toNat * 16 + v2.toNat) = z := ⟨_, rfl⟩
   have HEQ := Lib.hid (show unhexP l = (unhexP (l.drop (2 * (k + 1)))).map ((acc ++ [z]) ++ ·) by
    rw [HEQ0.out, HUC.out, HV1.out, HV2.out, if_neg e1, if_neg e2, ← hz]
    show Option.map _ (Option.map _ _) = _
    rw [Option.map_map]
    congr 1
    funext q
    simp)
   have HZZ := Lib.hid (show (z.toNat : Int) = v1 * 16 + v2 by
    rw [← hz, UInt8.toNat_ofNat']
    omega)
   have hkr : k < (acc ++ List.replicate (m - k) 0).length := by rw [List.length_append, HAL.out, List.length_replicate]; omega
   have hcell := HRW.out.cell hkr
   have hfree := HRW.out.free hkr
   have HSET := Lib.hid (HRW.out.set hkr z)
   clear e1 e2 hz HB1 HB2
   have HBI := Lib.hid (bits16 hv1 hv3 hv2 hv4)
   go_wp2
   go_roundw
   case rel =>
    rw [HBI.out]
    refine ⟨k + 1, by omega, by go_num, Lib.hid ⟨acc ++ [z], by rw [List.length_append, HAL.out]; rfl, ?_, HEQ.out, (below_drewN HBE.out nq).setCell (Nat.le_refl _) _⟩⟩
    have h1 := HSET.out
    rw [HZZ.out] at h1
    have h2 : (acc ++ List.replicate (m - k) 0).set k z = acc ++ [z] ++ List.replicate (m - (k + 1)) 0 := by
     rw [List.set_append_right _ _ (by rw [HAL.out]; exact Nat.le_refl _), HAL.out, show k - k = 0 by omega, show m - k = (m - (k + 1)) + 1 by omega, List.replicate_succ, List.set_cons_zero, List.append_assoc]
     rfl
    rw [h2] at h1
    exact h1
   case measure => simp [intOf] <;> omega
  ·obtain rfl : k = m := by omega
   have hun : unhexP l = some acc := by
    rw [HEQ0.out, List.drop_of_length_le (by rw [HL.out, HNM.out]; exact Nat.le_refl _)]
    show some (acc ++ []) = _
    rw [List.append_nil]
   have hrow : ByteRow wr w.heap.size acc := by
    have := HRW.out
    rw [show k - k = 0 by omega] at this
    simpa using this
   have hback := run_convert_bytes_back (P := Tryz.prog) wr 62 9 5 ⟨w.heap.size, 0, none⟩ k acc Tryz.underlying62 Tryz.underlying5 Tryz.underlying9 hrow.cells
   rw [HAL.out] at hback
   have HUN := Lib.hid hun
   clear hrow hun
   go_wp2
   go_ret2
   unfold UnhexPost
   rw [HUN.out]
   exact ⟨rfl, HBE.out⟩
end Go.Proofs.YthidbmeaccpjdaaGreatDoor
end
section
namespace Go.Proofs.YthidbmeaccpjdaaGreatDoor
open Go.RowKit
set_option linter.unusedVariables false
def ErrVar (w : World) : Prop := ∃ ev, w.cell? ⟨6, 0, none⟩ = some ev ∧ (ev = .nilIface ∨ ∃ te pe, ev = .iface te pe)
def ParsePost (w : World) (o : Option Int) (e : Ending) (w' : World) : Prop := e = .returned (.tuple #[.int .i64 (o.getD 0), .bool o.isSome]) ∧ Below w.heap.size w w'
theorem parse_none {w w' : World} {o : Option Int} (h : o = none) (hb : Below w.heap.size w w') : ParsePost w o (.returned (.tuple #[.int .i64 0, .bool false])) w' := by
 subst h
 exact ⟨rfl, hb⟩
theorem parse_some {w w' : World} {o : Option Int} {v : Int} (h : o = some v) (hb : Below w.heap.size w w') : ParsePost w o (.returned (.tuple #[.int .i64 v, .bool true])) w' := by
 subst h
 exact ⟨rfl, hb⟩
theorem trim_dash (l : List UInt8) : Lib.trimPrefix l [45] = decD l := by
 unfold Lib.trimPrefix decD
 cases l with
 | nil => rfl
 | cons c r =>
  by_cases h : c = 45
  ·subst h; rfl
  ·have : ¬ (c :: r).head? = some 45 := fun e => h (Option.some.inj e)
   rw [if_neg this]
   have h2 : List.isPrefixOf [45] (c :: r) = false := by simp [List.isPrefixOf]; exact fun e => h e.symm
   simp [Lib.hasPrefix, h2]
theorem rune_digit {l : List UInt8} (h : l ≠ []) : (48 ≤ (uN l).1 ∧ (uN l).1 ≤ 57) → digitB (l.getD 0 0) = true ∧ (uN l).2 = 1 := by
 intro hr
 have hc := uN_cases l h
 have hb : bt l 0 = (l.getD 0 0).toNat := rfl
 rcases hc with ⟨h1, h2 | h2⟩ | h2 | h2 | h2
 ·exact ⟨digitB_nat.2 (by rw [← hb]; omega), h1⟩
 all_goals omega
theorem digit_rune {l : List UInt8} (h : l ≠ []) (hd : digitB (l.getD 0 0) = true) : 48 ≤ (uN l).1 ∧ (uN l).1 ≤ 57 ∧ (uN l).2 = 1 := by
 have hd2 := digitB_nat.1 hd
 have hb : bt l 0 = (l.getD 0 0).toNat := rfl
 rw [← hb] at hd2
 have hc := uN_cases l h
 rcases hc with ⟨h1, h2 | h2⟩ | h2 | h2 | h2
 ·omega
 all_goals omega
structure PrRel (w : World) (s : ByteArray) (d : List UInt8) (pos : Nat) (wr : World) : Prop where
 iter : wr.heap[w.heap.size]? = some (.stringIter s pos)
 bel : Below w.heap.size w wr
 dig : (d.take pos).all digitB = true
theorem dig_snoc {d : List UInt8} {k : Nat} (hk : k < d.length) (h : (d.take k).all digitB = true) (h2 : digitB ((d.drop k).getD 0 0) = true) : (d.take (k + 1)).all digitB = true := by
 rw [List.take_succ_eq_append_getElem hk, List.all_append, h]
 have e : (d.drop k).getD 0 0 = d[k] := by simp [List.getD_eq_getElem?_getD, List.getElem?_drop, hk]
 rw [e] at h2
 simp [h2]
theorem not_canon_digit {l : List UInt8} {k : Nat} (hk : k < (decD l).length) (h : digitB (((decD l).drop k).getD 0 0) = false) : ¬ canonB l := by
 rintro ⟨h1, _⟩
 have e : ((decD l).drop k).getD 0 0 = (decD l)[k] := by simp [List.getD_eq_getElem?_getD, List.getElem?_drop, hk]
 rw [e] at h
 have := List.all_eq_true.1 h1 _ (List.getElem_mem hk)
 rw [this] at h
 cases h
def AtoiPost (w : World) (v : Value) (e : Ending) (w' : World) : Prop := e = .returned v ∧ Below w.heap.size w w'
theorem below_bytesWorld (w : World) (e : TypeId) (t : ByteArray) : Below w.heap.size w (Lib.bytesWorld w e t) := by
 unfold Lib.bytesWorld
 exact Lib.below_freeze (((Below.refl _ _).drew).alloc (Nat.le_refl _) _) (p := ⟨w.heap.size, _, none⟩) (Nat.le_refl _) _
theorem atoi_ok (l : List UInt8) (s : ByteArray) (hs : ba l = s) (hl : l.length ≤ 1000000000) {v : Int} (h : Lib.atoiAll l = .ok v) (w : World) : Calls Tryz.prog 276 #[.string s] w (AtoiPost w (.tuple #[.int .i64 v, .nilIface])) := by
 subst hs
 refine (Tryz.strconv_Atoi_ok (ba l) (by rw [ba_size]; omega) v h w).mono ?_
 rintro e w' ⟨rfl, rfl | ⟨t, rfl⟩⟩
 ·exact ⟨rfl, Below.refl _ _⟩
 ·exact ⟨rfl, below_bytesWorld _ _ _⟩
def AtoiPost2 (w : World) (e : Ending) (w' : World) : Prop := ∃ n t p, e = .returned (.tuple #[.int .i64 n, .iface t p]) ∧ Below w.heap.size w w'
theorem atoi_range (l : List UInt8) (s : ByteArray) (hs : ba l = s) (hl : l.length ≤ 1000000000) (h : Lib.atoiAll l = .range) (w : World) (hE : ErrVar w) : Calls Tryz.prog 276 #[.string s] w (AtoiPost2 w) := by
 subst hs
 obtain ⟨ev, h1, h2⟩ := hE
 refine (Tryz.strconv_Atoi_range (ba l) (by rw [ba_size]; omega) h ev w h1 h2).mono ?_
 rintro e w' ⟨N, rfl, _, _, hb⟩
 exact ⟨_, _, _, rfl, hb⟩
theorem ErrVar.keep {w w' : World} (h : ErrVar w) (hb : Below w.heap.size w w') (hlt : 6 < w.heap.size) : ErrVar w' := by
 obtain ⟨ev, h1, h2⟩ := h
 exact ⟨ev, (hb.cell (p := ⟨6, 0, none⟩) hlt).trans h1, h2⟩
set_option maxRecDepth 100000 in
set_option maxHeartbeats 4000000 in
theorem num_parse_any (l : List UInt8) (lo hi : Int) (w : World) (hl : l.length ≤ 1000000000) (hlo : -9223372036854775808 ≤ lo) (hhi : hi ≤ 9223372036854775807) (hE : ErrVar w) (hlt6 : 6 < w.heap.size) :
  Calls Tryz.prog 246 #[.string (ba l), .int .i64 lo, .int .i64 hi] w (ParsePost w (decP l lo hi)) := by
 have HTR := Lib.hid (fun W => Tryz.strings_TrimPrefix (ba l) (⟨#[45]⟩ : ByteArray) W)
 have HD := Lib.hid (trim_dash l)
 have HDP := Lib.hid (decP_eq l lo hi)
 have hdl : (decD l).length ≤ l.length := by unfold decD; split; rw [List.length_drop]; omega; exact Nat.le_refl _
 have HEV := Lib.hid (fun (W : World) (hb : Below w.heap.size w W) => hE.keep hb hlt6)
 clear hE hlt6
 have HNC := Lib.hid (fun k => not_canon_digit (l := l) (k := k))
 obtain ⟨d, hd⟩ : ∃ d, decD l = d := ⟨_, rfl⟩
 have HDD := Lib.hid hd
 simp only [hd] at HD hdl HNC
 clear hd
 have hdn : d.length ≤ 1000000000 := by omega
 obtain ⟨s, hs⟩ : ∃ s, ba d = s := ⟨_, rfl⟩
 have HS := Lib.hid hs
 have HZ := Lib.hid (show s.size = d.length by rw [← hs, ba_size])
 clear hs hdl
 obtain ⟨o, ho⟩ : ∃ o, decP l lo hi = o := ⟨_, rfl⟩
 rw [ho] at HDP ⊢
 clear ho
 obtain ⟨s0, hs0⟩ : ∃ s, ba l = s := ⟨_, rfl⟩
 have HS0 := Lib.hid hs0
 rw [hs0] at HTR ⊢
 have HTR2 := Lib.hid (show ∀ W, Calls Tryz.prog 275 #[.string s0, .string ⟨#[45]⟩] W fun e w' => e = .returned (.string s) ∧ w' = W from fun W => (HTR.out W).mono (by
  rintro e w' ⟨rfl, rfl⟩
  refine ⟨?_, rfl⟩
  have e : (Lib.trimPrefix s0.data.toList (⟨#[45]⟩ : ByteArray).data.toList) = d := by rw [← HS0.out, ba_list, ← HD.out]
  rw [e, ← HS.out]
  rfl))
 clear HTR hs0
 go_enter Tryz.func246, Tryz.ntmps246
 go_wp2_with fail
 refine (HTR2.out _).mono ?_
 rintro e w2 ⟨rfl, hw2⟩
 have hw3 := hw2.symm
 subst hw3
 clear hw2 HTR2
 go_wp2
 go_loopw [] (fun wr => ∃ pos : Nat, pos ≤ s.size ∧ Hid (PrRel w s d pos wr)) (fun wr => s.size - wr.iterPos w.heap.size)
 case atStart =>
  refine ⟨0, Nat.zero_le _, Lib.hid ⟨?_, (Below.refl _ w).alloc (Nat.le_refl _) _, rfl⟩⟩
  exact World.iter_heap w s 0
 case round =>
  obtain ⟨pos, hpos, HR⟩ := hrel
  have hit := HR.out.iter
  have hbw := HR.out.bel
  have hszr : w.heap.size < wr.heap.size := heap_lt hit
  by_cases hp : pos < s.size
  ·have hpd : pos < d.length := by rw [← HZ.out]; exact hp
   have hne : d.drop pos ≠ [] := by intro e; have := congrArg List.length e; rw [List.length_drop] at this; simp at this; omega
   have hnx0 : ∀ ty, (Instr.next (.pointer (some ⟨w.heap.size, 0, none⟩)) true ty).run Tryz.prog wr = _ := fun ty => Lib.run_next_any_at wr w.heap.size s pos ty hit hp
   have hdec : Utf8.decode s pos = uN (d.drop pos) := by rw [← HS.out]; exact uN_at d pos
   have hup := uN_pos _ hne
   have HRD := Lib.hid (rune_digit hne)
   have HDR := Lib.hid (digit_rune hne)
   have HSN := Lib.hid (dig_snoc hpd HR.out.dig)
   have HNO := Lib.hid (HNC.out pos hpd)
   obtain ⟨⟨r, n⟩, hrn⟩ : ∃ q, uN (d.drop pos) = q := ⟨_, rfl⟩
   rw [hrn] at hdec hup HRD HDR
   rw [hdec] at hnx0
   dsimp only at hup hnx0
   rw [List.length_drop, ← HZ.out] at hup
   have hit2 := Lib.iterAt_heap wr w.heap.size s pos (pos + n) hit
   have hbw2 := Lib.below_iterAt hbw (k := w.heap.size) (by omega) s (pos + n)
   obtain ⟨W, hW⟩ : ∃ W, wr.iterAt w.heap.size s (pos + n) = W := ⟨_, rfl⟩
   have HIP := Lib.hid (show wr.iterPos w.heap.size = pos by simp [World.iterPos, hit])
   rw [hW] at hnx0 hit2 hbw2
   have hnx := hnx0
   have HIT := Lib.hid hit2
   have HBW := Lib.hid hbw2
   obtain ⟨x, hx⟩ : ∃ x : Int, (r : Int) = x := ⟨_, rfl⟩
   simp only [hx] at hnx
   have HX := Lib.hid hx
   clear hW hrn hdec hnx0 hit2 hbw2 hit hbw hx hne HR hpd
   by_cases e1 : 48 ≤ x ∧ x ≤ 57
   ·have hd1 := HRD.out (by have := HX.out; show 48 ≤ r ∧ r ≤ 57; omega)
    have HD1 := Lib.hid (HSN.out hd1.1)
    have hn1 : n = 1 := hd1.2
    subst hn1
    have g1 : decide (x < 48) = false := decide_eq_false (by omega)
    have g2 : decide (57 < x) = false := decide_eq_false (by omega)
    clear e1 hd1 hup
    go_wp2
    go_roundw
    case rel => exact ⟨pos + 1, by omega, Lib.hid ⟨HIT.out, HBW.out, HD1.out⟩⟩
    case measure =>
     rw [HIP.out]
     have : W.iterPos w.heap.size = pos + 1 := by simp [World.iterPos, HIT.out]
     rw [this]
     omega
   ·have HNN := Lib.hid (show ¬ canonB l from HNO.out (by
     cases hdg : digitB ((d.drop pos).getD 0 0) with
     | false => rfl
     | true =>
      have := HDR.out hdg
      exact absurd (show 48 ≤ x ∧ x ≤ 57 by have h := HX.out; have h1 : 48 ≤ r := this.1; have h2 : r ≤ 57 := this.2.1; omega) e1))
    have HON := Lib.hid (show o = none by rw [HDP.out, if_neg (fun h => HNN.out h.1)])
    by_cases e2 : x < 48
    ·have g1 : decide (x < 48) = true := decide_eq_true e2
     clear e1 e2 hup
     go_wp2
     go_ret2
     exact parse_none HON.out HBW.out
    ·have g1 : decide (x < 48) = false := decide_eq_false e2
     have g2 : decide (57 < x) = true := decide_eq_true (by omega)
     clear e1 e2 hup
     go_wp2
     go_ret2
     exact parse_none HON.out HBW.out
  ·have hnx : ∀ ty, (Instr.next (.pointer (some ⟨w.heap.size, 0, none⟩)) true ty).run Tryz.prog wr = _ := fun ty => Lib.run_next_end_at wr w.heap.size s pos ty hit hp
   have HAL := Lib.hid (show d.all digitB = true by
    have := HR.out.dig
    rw [List.take_of_length_le (by rw [← HZ.out]; omega)] at this
    exact this)
   have HBW := Lib.hid hbw
   clear HR hit hbw
   cases d with
   | nil =>
    have hse : s.toList.isEmpty = true := by rw [← HS.out, ba_toList]; rfl
    have HON := Lib.hid (show o = none by rw [HDP.out, if_neg (fun h => h.1.2.1 HDD.out)])
    clear hp hpos
    go_wp2
    go_ret2
    exact parse_none HON.out HBW.out
   | cons c r =>
    have hse : s.toList.isEmpty = false := by rw [← HS.out, ba_toList]; rfl
    have hp0 : 0 < s.size := by rw [HZ.out]; simp
    have hget : s[0] = c := by
     have h := HS.out
     subst h
     rfl
    obtain ⟨x, hx⟩ : ∃ x : Int, (c.toNat : Int) = x := ⟨_, rfl⟩
    have hgi : ((s[0]).toNat : Int) = x := by rw [hget]; exact hx
    have HX := Lib.hid hx
    clear hp hpos hget hx
    by_cases e1 : x = 48
    ·have g1 : (x == 48) = true := by simpa using e1
     by_cases e2 : l = [48]
     ·have hs0 : s0.toList = [48] := by rw [← HS0.out, ba_toList, e2]
      have HC := Lib.hid (show canonB l from ⟨by rw [HDD.out]; exact HAL.out, by rw [HDD.out]; simp, fun h => h.2 e2⟩)
      have HCAN := Lib.hid (atoi_canon HC.out)
      clear e1 e2
      rcases HCAN.out with ⟨ha, hv1, hv2⟩ | ⟨ha, hv⟩
      ·have HAT := Lib.hid (atoi_ok l s0 HS0.out hl ha wr)
       obtain ⟨v, hv⟩ : ∃ v, decN l = v := ⟨_, rfl⟩
       rw [hv] at hv1 hv2 HAT HDP
       clear hv ha HCAN
       by_cases e5 : v < lo
       ·have g5 : decide (v < lo) = true := decide_eq_true e5
        have HON := Lib.hid (show o = none by rw [HDP.out, if_neg (fun h => by have := h.2.1; omega)])
        clear e5
        go_wp2_with fail
        refine HAT.out.mono ?_
        rintro e w4 ⟨rfl, hb4⟩
        have HB4 := Lib.hid hb4
        clear hb4
        go_wp2
        go_ret2
        exact parse_none HON.out (HBW.out.trans (HB4.out.mono (by omega)))
       have g5 : decide (v < lo) = false := decide_eq_false e5
       by_cases e6 : hi < v
       ·have g6 : decide (hi < v) = true := decide_eq_true e6
        have HON := Lib.hid (show o = none by rw [HDP.out, if_neg (fun h => by have := h.2.2; omega)])
        clear e5 e6
        go_wp2_with fail
        refine HAT.out.mono ?_
        rintro e w4 ⟨rfl, hb4⟩
        have HB4 := Lib.hid hb4
        clear hb4
        go_wp2
        go_ret2
        exact parse_none HON.out (HBW.out.trans (HB4.out.mono (by omega)))
       have g6 : decide (hi < v) = false := decide_eq_false e6
       have HON := Lib.hid (show o = some v by rw [HDP.out, if_pos ⟨HC.out, by omega, by omega⟩])
       clear e5 e6
       go_wp2_with fail
       refine HAT.out.mono ?_
       rintro e w4 ⟨rfl, hb4⟩
       have HB4 := Lib.hid hb4
       clear hb4
       go_wp2
       go_ret2
       exact parse_some HON.out (HBW.out.trans (HB4.out.mono (by omega)))
      ·have HAT := Lib.hid (atoi_range l s0 HS0.out hl ha wr (HEV.out wr HBW.out))
       have HON := Lib.hid (show o = none by rw [HDP.out, if_neg (fun h => by have := h.2; omega)])
       clear ha hv HCAN
       go_wp2_with fail
       refine HAT.out.mono ?_
       rintro e w4 ⟨nn, t, p, rfl, hb4⟩
       have HB4 := Lib.hid hb4
       clear hb4
       go_wp2
       go_ret2
       exact parse_none HON.out (HBW.out.trans (HB4.out.mono (by omega)))
     ·have hs0 : (s0.toList == [48]) = false := by
       rw [← HS0.out, ba_toList]
       simpa using e2
      have hs1 : ¬ s0.toList = [48] := by
       rw [← HS0.out, ba_toList]
       exact e2
      have HON := Lib.hid (show o = none by rw [HDP.out, if_neg (fun h => h.1.2.2 ⟨by rw [HDD.out, u8_int_eq.1 (HX.out.trans e1 : (c.toNat : Int) = ((48 : UInt8).toNat : Int))]; rfl, e2⟩)])
      clear e1 e2
      go_wp2_with fail
      go_ret2
      exact parse_none HON.out HBW.out
    ·have g1 : (x == 48) = false := by simpa using e1
     have HC := Lib.hid (show canonB l from ⟨by rw [HDD.out]; exact HAL.out, by rw [HDD.out]; simp, fun h => by
      have h2 := h.1
      rw [HDD.out] at h2
      have h3 : c = 48 := Option.some.inj h2
      exact e1 (by rw [← HX.out, h3]; rfl)⟩)
     have HCAN := Lib.hid (atoi_canon HC.out)
     clear e1
     rcases HCAN.out with ⟨ha, hv1, hv2⟩ | ⟨ha, hv⟩
     ·have HAT := Lib.hid (atoi_ok l s0 HS0.out hl ha wr)
      obtain ⟨v, hv⟩ : ∃ v, decN l = v := ⟨_, rfl⟩
      rw [hv] at hv1 hv2 HAT HDP
      clear hv ha HCAN
      by_cases e5 : v < lo
      ·have g5 : decide (v < lo) = true := decide_eq_true e5
       have HON := Lib.hid (show o = none by rw [HDP.out, if_neg (fun h => by have := h.2.1; omega)])
       clear e5
       go_wp2_with fail
       refine HAT.out.mono ?_
       rintro e w4 ⟨rfl, hb4⟩
       have HB4 := Lib.hid hb4
       clear hb4
       go_wp2
       go_ret2
       exact parse_none HON.out (HBW.out.trans (HB4.out.mono (by omega)))
      have g5 : decide (v < lo) = false := decide_eq_false e5
      by_cases e6 : hi < v
      ·have g6 : decide (hi < v) = true := decide_eq_true e6
       have HON := Lib.hid (show o = none by rw [HDP.out, if_neg (fun h => by have := h.2.2; omega)])
       clear e5 e6
       go_wp2_with fail
       refine HAT.out.mono ?_
       rintro e w4 ⟨rfl, hb4⟩
       have HB4 := Lib.hid hb4
       clear hb4
       go_wp2
       go_ret2
       exact parse_none HON.out (HBW.out.trans (HB4.out.mono (by omega)))
      have g6 : decide (hi < v) = false := decide_eq_false e6
      have HON := Lib.hid (show o = some v by rw [HDP.out, if_pos ⟨HC.out, by omega, by omega⟩])
      clear e5 e6
      go_wp2_with fail
      refine HAT.out.mono ?_
      rintro e w4 ⟨rfl, hb4⟩
      have HB4 := Lib.hid hb4
      clear hb4
      go_wp2
      go_ret2
      exact parse_some HON.out (HBW.out.trans (HB4.out.mono (by omega)))
     ·have HAT := Lib.hid (atoi_range l s0 HS0.out hl ha wr (HEV.out wr HBW.out))
      have HON := Lib.hid (show o = none by rw [HDP.out, if_neg (fun h => by have := h.2; omega)])
      clear ha hv HCAN
      go_wp2_with fail
      refine HAT.out.mono ?_
      rintro e w4 ⟨nn, t, p, rfl, hb4⟩
      have HB4 := Lib.hid hb4
      clear hb4
      go_wp2
      go_ret2
      exact parse_none HON.out (HBW.out.trans (HB4.out.mono (by omega)))
end Go.Proofs.YthidbmeaccpjdaaGreatDoor
end
section
namespace Go.Proofs.YthidbmeaccpjdaaGreatDoor
open Go.RowKit
set_option linter.unusedVariables false
structure Tabs (w : World) : Prop where
 utf : Lib.Utf8Tabs 1 2 w
 err : ErrVar w
 max : ∃ m, w.cell? ⟨3, 0, none⟩ = some (.int .i64 m)
 lt : 1 < w.heap.size ∧ 2 < w.heap.size ∧ 3 < w.heap.size ∧ 6 < w.heap.size
theorem Tabs.below {w w' : World} (h : Tabs w) (hb : Below w.heap.size w w') : Tabs w' := by
 have hs := hb.size
 obtain ⟨l1, l2, l3, l4⟩ := h.lt
 refine ⟨⟨fun c hc => ?_, fun i hi => ⟨?_, ?_⟩⟩, h.err.keep hb l4, ?_, by omega, by omega, by omega, by omega⟩
 ·exact (hb.cell (p := ⟨1, c, none⟩) l1).trans (h.utf.1 c hc)
 ·exact (hb.cell (p := ⟨2, 2 * i, none⟩) l2).trans (h.utf.2 i hi).1
 ·exact (hb.cell (p := ⟨2, 2 * i + 1, none⟩) l2).trans (h.utf.2 i hi).2
 ·obtain ⟨m, hm⟩ := h.max
  exact ⟨m, (hb.cell (p := ⟨3, 0, none⟩) l3).trans hm⟩
theorem Tabs.drewN {w : World} (h : Tabs w) (n : Nat) : Tabs (w.drewN n) := h.below (below_drewN (Below.refl _ _) n)
theorem num_parse (l : List UInt8) (lo hi : Int) (w : World) (hl : l.length ≤ 1000000000) (hlo : -9223372036854775808 ≤ lo) (hhi : hi ≤ 9223372036854775807) (hT : Tabs w) :
  Calls Tryz.prog 246 #[.string (ba l), .int .i64 lo, .int .i64 hi] w (ParsePost w (decP l lo hi)) := num_parse_any l lo hi w hl hlo hhi hT.err hT.lt.2.2.2
def okN (l : List UInt8) : Bool := decide ((uN l).1 ≠ 65533) || decide (1 < (uN l).2)
def NextPost (w : World) (l : List UInt8) (e : Ending) (w' : World) : Prop := e = .returned (.tuple #[.int .i64 ((uN l).1 : Nat), .string (ba (l.drop (uN l).2)), .bool (okN l)]) ∧ Below w.heap.size w w'
set_option maxRecDepth 100000 in
set_option maxHeartbeats 4000000 in
theorem next_any (l : List UInt8) (w : World) (hl : l.length ≤ 1000000000) (hne : l ≠ []) (hT : Tabs w) :
  Calls Tryz.prog 130 #[.string (ba l)] w (NextPost w l) := by
 have hdg : Lib.decodeGo (ba l) = uN l := by
  unfold Lib.decodeGo
  rw [if_neg (by rw [ba_size]; intro h; exact hne (List.eq_nil_of_length_eq_zero h)), uN_at]
  rfl
 have hcall := Tryz.utf8_DecodeRuneInString (ba l) w hT.utf
 rw [hdg] at hcall
 have hup := uN_pos l hne
 have hok : okN l = (decide ((uN l).1 ≠ 65533) || decide (1 < (uN l).2)) := rfl
 have HDR := Lib.hid (fun m => ba_drop l m)
 have HP := Lib.hid (show ∀ (e : Ending) (w' : World) m r, uN l = (r, m) → e = .returned (.tuple #[.int .i64 (r : Nat), .string (ba (l.drop m)), .bool (okN l)]) → Below w.heap.size w w' → NextPost w l e w' from fun e w' m r h1 h2 h3 => by
  unfold NextPost
  rw [h1]
  exact ⟨h2, h3⟩)
 obtain ⟨⟨r, m⟩, hrm⟩ : ∃ q, uN l = q := ⟨_, rfl⟩
 rw [hrm] at hcall hup hok
 have HRM := Lib.hid hrm
 have HC := Lib.hid hcall
 have hms : m ≤ (ba l).size := by rw [ba_size]; exact hup.2.1
 have hmi : (m : Int) ≤ ((ba l).size : Int) := by omega
 have hm1 : 1 ≤ m := hup.1
 obtain ⟨ob, hob⟩ : ∃ b, okN l = b := ⟨_, rfl⟩
 rw [hob] at hok
 have HOB := Lib.hid hob
 have HOK := Lib.hid hok
 have hr1 : (0 : Int) ≤ (r : Int) := by omega
 have hr2 : (r : Int) ≤ 1114111 := by have := hup.2.2.2; omega
 clear hcall hup hok hrm hob hdg hne
 obtain ⟨s, hs⟩ : ∃ s, ba l = s := ⟨_, rfl⟩
 have HS := Lib.hid hs
 rw [hs] at HC hms hmi ⊢
 clear hs
 obtain ⟨x, hx⟩ : ∃ x : Int, (r : Int) = x := ⟨_, rfl⟩
 have HX := Lib.hid hx
 simp only [hx] at HC hr1 hr2
 clear hx
 by_cases e1 : x = 65533
 ·have g1 : (x != 65533) = false := by simp [e1]
  by_cases e2 : m = 1
  ·have g2 : decide (1 < (m : Int)) = false := decide_eq_false (by omega)
   have HFB := Lib.hid (show ob = false by
    have h1 := HX.out
    have h2 : r = 65533 := by omega
    rw [HOK.out]
    simp [e2, h2])
   clear e1 e2
   go_enter Tryz.func130, Tryz.ntmps130
   go_wp2_with fail
   refine HC.out.mono ?_
   rintro e w2 ⟨rfl, hb⟩
   have HB := Lib.hid hb
   clear hb
   go_wp2
   go_quiet (fail)
   go_wp2
   go_ret3
   exact HP.out _ _ m r HRM.out (by rw [HOB.out, HFB.out, HX.out, ← HDR.out m, HS.out]; rfl) (below_drewN HB.out nq)
  ·have g2 : decide (1 < (m : Int)) = true := decide_eq_true (by omega)
   have HFB := Lib.hid (show ob = true by
    have h2 : decide (1 < m) = true := decide_eq_true (by omega)
    rw [HOK.out]
    show (_ || decide (1 < m)) = true
    rw [h2, Bool.or_true])
   clear e1 e2
   go_enter Tryz.func130, Tryz.ntmps130
   go_wp2_with fail
   refine HC.out.mono ?_
   rintro e w2 ⟨rfl, hb⟩
   have HB := Lib.hid hb
   clear hb
   go_wp2
   go_quiet (fail)
   go_wp2
   go_ret3
   exact HP.out _ _ m r HRM.out (by rw [HOB.out, HFB.out, HX.out, ← HDR.out m, HS.out]; rfl) (below_drewN HB.out nq)
 ·have g1 : (x != 65533) = true := by simpa using e1
  have HFB := Lib.hid (show ob = true by
   have h1 := HX.out
   have h2 : decide (r ≠ 65533) = true := decide_eq_true (by omega)
   rw [HOK.out]
   show (decide (r ≠ 65533) || _) = true
   rw [h2, Bool.true_or])
  clear e1
  go_enter Tryz.func130, Tryz.ntmps130
  go_wp2_with fail
  refine HC.out.mono ?_
  rintro e w2 ⟨rfl, hb⟩
  have HB := Lib.hid hb
  clear hb
  go_wp2
  go_quiet (fail)
  go_wp2
  go_ret3
  exact HP.out _ _ m r HRM.out (by rw [HOB.out, HFB.out, HX.out, ← HDR.out m, HS.out]; rfl) (below_drewN HB.out nq)
end Go.Proofs.YthidbmeaccpjdaaGreatDoor
end
