/- Law 15, plain: what is written with a transfer encoding is read back. Law 15: the contract of laid (printed by gen_lay15. Layer 14: the contract of Parse (the parts of a message). The law's helper whole: the first part of a message. -/
import Derived.Test.YthidbmeaccpjdaaGreatDoorM42
import Derived.Test.YthidbmeaccpjdaaGreatDoorM09
import Derived.Test.YthidbmeaccpjdaaGreatDoorM30
import Derived.Test.YthidbmeaccpjdaaGreatDoorM38
import Derived.Test.YthidbmeaccpjdaaGreatDoorM33
import Derived.Test.YthidbmeaccpjdaaGreatDoorM35
import Derived.Test.YthidbmeaccpjdaaGreatDoorM44
namespace Go.Proofs.YthidbmeaccpjdaaGreatDoor
open Go.RowKit
set_option linter.unusedVariables false
set_option maxHeartbeats 4000000
def ctN : List UInt8 := [67, 111, 110, 116, 101, 110, 116, 45, 84, 121, 112, 101]
def cteN : List UInt8 := [67, 111, 110, 116, 101, 110, 116, 45, 84, 114, 97, 110, 115, 102, 101, 114, 45, 69, 110, 99, 111, 100, 105, 110, 103]
def how0 : List UInt8 := [56, 98, 105, 116]
def how1 : List UInt8 := [98, 97, 115, 101, 54, 52]
def how2 : List UInt8 := [81, 117, 111, 116, 101, 100, 45, 80, 114, 105, 110, 116, 97, 98, 108, 101]
def wayP (h : Int) : Nat := if h = 0 then 0 else if h = 1 then 1 else 2
def howN (n : Nat) : List UInt8 := if n = 0 then how0 else if n = 1 then how1 else how2
def encN (n : Nat) (s : List UInt8) : List UInt8 := if n = 0 then s else if n = 1 then b64P s else qpP s
def codN (n : Nat) : List UInt8 := if n = 0 then how0 else if n = 1 then wB64 else wQp
def headN (kind : List UInt8) (n : Nat) : List UInt8 := putP ctN kind ++ putP cteN (howN n) ++ [13, 10]
def laidN (kind : List UInt8) (n : Nat) (s : List UInt8) : List UInt8 := headN kind n ++ encN n s
def kPlain : List UInt8 := [116, 101, 120, 116, 47, 112, 108, 97, 105, 110, 59, 32, 99, 104, 97, 114, 115, 101, 116, 61, 117, 116, 102, 45, 56]
def kBytes : List UInt8 := [97, 112, 112, 108, 105, 99, 97, 116, 105, 111, 110, 47, 111, 99, 116, 101, 116, 45, 115, 116, 114, 101, 97, 109]
def kHtml : List UInt8 := [116, 101, 120, 116, 47, 104, 116, 109, 108]
def tPlain : Typ := ⟨wText, [112, 108, 97, 105, 110], [(wCharset, [117, 116, 102, 45, 56])]⟩
def tBytes : Typ := ⟨[97, 112, 112, 108, 105, 99, 97, 116, 105, 111, 110], [111, 99, 116, 101, 116, 45, 115, 116, 114, 101, 97, 109], []⟩
def tHtml : Typ := ⟨wText, wHtml, []⟩
structure Says15 (C : List UInt8) (k : Typ) (co : List UInt8) : Prop where
 hs : HeadSays C k co
 nod : getP (headP C).1 cdName = none
theorem says_plain (n : Nat) (h : n < 3) : Says15 (headN kPlain n) tPlain (codN n) := by
 match n, h with
 | 0, _ => exact ⟨⟨by kernel_rfl, by kernel_rfl, by kernel_rfl, by kernel_rfl⟩, by kernel_rfl⟩
 | 1, _ => exact ⟨⟨by kernel_rfl, by kernel_rfl, by kernel_rfl, by kernel_rfl⟩, by kernel_rfl⟩
 | 2, _ => exact ⟨⟨by kernel_rfl, by kernel_rfl, by kernel_rfl, by kernel_rfl⟩, by kernel_rfl⟩
theorem says_bytes (n : Nat) (h : n < 3) : Says15 (headN kBytes n) tBytes (codN n) := by
 match n, h with
 | 0, _ => exact ⟨⟨by kernel_rfl, by kernel_rfl, by kernel_rfl, by kernel_rfl⟩, by kernel_rfl⟩
 | 1, _ => exact ⟨⟨by kernel_rfl, by kernel_rfl, by kernel_rfl, by kernel_rfl⟩, by kernel_rfl⟩
 | 2, _ => exact ⟨⟨by kernel_rfl, by kernel_rfl, by kernel_rfl, by kernel_rfl⟩, by kernel_rfl⟩
theorem says_html (n : Nat) (h : n < 3) : Says15 (headN kHtml n) tHtml (codN n) := by
 match n, h with
 | 0, _ => exact ⟨⟨by kernel_rfl, by kernel_rfl, by kernel_rfl, by kernel_rfl⟩, by kernel_rfl⟩
 | 1, _ => exact ⟨⟨by kernel_rfl, by kernel_rfl, by kernel_rfl, by kernel_rfl⟩, by kernel_rfl⟩
 | 2, _ => exact ⟨⟨by kernel_rfl, by kernel_rfl, by kernel_rfl, by kernel_rfl⟩, by kernel_rfl⟩
def partN (C : List UInt8) (m : Nat) (k : Typ) (co : List UInt8) : Prt := ⟨-1, 0, 0, (C.length : Nat), (m : Nat), k, co⟩
theorem back_read {C X co : List UInt8} {k : Typ} (h : Says15 C k co) : readPt (C ++ X) (-1) 0 0 (C ++ X).length false = partN C (C ++ X).length k co := h.hs.read
theorem back_bytes {C : List UInt8} {k : Typ} {n : Nat} (hn : n < 3) (h : Says15 C k (codN n)) (s : List UInt8) : bytesP (C ++ encN n s) (partN C (C ++ encN n s).length k (codN n)) = s := by
 have hb : bodyOf (C ++ encN n s) (partN C (C ++ encN n s).length k (codN n)) = encN n s := h.hs.body
 unfold bytesP
 rw [hb]
 match n, hn with
 | 0, _ => rfl
 | 1, _ =>
  show (if wB64 = wB64 then unb64P (b64P s) else _) = s
  rw [if_pos rfl, unb64_b64]
 | 2, _ =>
  show (if wQp = wB64 then _ else if wQp = wQp then unqpP (qpP s) else _) = s
  rw [if_neg (by decide), if_pos rfl]
  exact unqp_qp _ s
theorem back_told {C X co : List UInt8} {k : Typ} (h : Says15 C k co) : toldP (C ++ X) (partN C (C ++ X).length k co) = ([], []) := by
 unfold toldP
 have e : headOf (C ++ X) (partN C (C ++ X).length k co) = (headP C).1 := h.hs.head
 rw [e, h.nod]
 have h2 : dispT [] = ([], []) := by kernel_rfl
 exact h2
theorem back_name {C X co : List UInt8} {k : Typ} (h : Says15 C k co) (hk : paramT k.params wName = none) : nameOf (C ++ X) (partN C (C ++ X).length k co) = [] := by
 rw [nameOf_eq, back_told h]
 show nameG ((paramT [] wFilename).getD []) ((paramT k.params wName).getD []) = []
 rw [hk]
 kernel_rfl
theorem back_att {C X co : List UInt8} {k : Typ} (h : Says15 C k co) (hk : paramT k.params wName = none) : attachedP (C ++ X) (partN C (C ++ X).length k co) = (decide (k.kind ≠ wText) && decide (k.kind ≠ wMulti)) := by
 rw [attachedP_eq, back_told h, back_name h hk]
 exact attG_in (by decide) (.inr rfl)
theorem set_utf8 (B : List UInt8) : setT [117, 116, 102, 45, 56] B = repairP B := by
 unfold setT
 rw [if_pos (by decide), decodeSet_k]
 rfl
theorem back_text (n : Nat) (hn : n < 3) (s : List UInt8) : textOf (laidN kPlain n s) (partN (headN kPlain n) (laidN kPlain n s).length tPlain (codN n)) = lfP (repairP s) := by
 rw [textOf_eq]
 have e : bytesP (laidN kPlain n s) (partN (headN kPlain n) (laidN kPlain n s).length tPlain (codN n)) = s := back_bytes hn (says_plain n hn) s
 rw [e]
 exact textG_plain (K := wText) (S := [112, 108, 97, 105, 110]) (set := [117, 116, 102, 45, 56]) rfl (by decide) (set_utf8 s)
theorem back_text2 (n : Nat) (s : List UInt8) : textOf (laidN kBytes n s) (partN (headN kBytes n) (laidN kBytes n s).length tBytes (codN n)) = [] := by
 rw [textOf_eq]
 exact textG_not (K := tBytes.kind) (by decide)
theorem back_html (n : Nat) (hn : n < 3) (s : List UInt8) : textOf (laidN kHtml n (markP s)) (partN (headN kHtml n) (laidN kHtml n (markP s)).length tHtml (codN n)) = lfP (repairP s) := by
 rw [textOf_eq]
 have e : bytesP (laidN kHtml n (markP s)) (partN (headN kHtml n) (laidN kHtml n (markP s)).length tHtml (codN n)) = markP s := back_bytes hn (says_html n hn) (markP s)
 rw [e]
 have h2 : setT [] (markP s) = markP (repairP s) := by
  unfold setT
  rw [if_neg (by simp), repair_mark _ s (Nat.le_refl _)]
 have h3 := textG_html (K := wText) (S := wHtml) (set := []) (B := markP s) rfl rfl h2
 rw [strip_mark] at h3
 exact h3
theorem wrapP_len : ∀ (n : Nat) (l : List UInt8), (wrapP n l).length ≤ 3 * l.length + 2
 | n, [] => by unfold wrapP; split <;> simp
 | n, c :: r => by
  have ih := wrapP_len (n + 1) r
  unfold wrapP
  rw [List.length_cons, List.length_append, List.length_cons]
  split
  ·simp; omega
  ·simp; omega
theorem b64Q_len : ∀ l : List UInt8, (b64Q l).length ≤ 4 * l.length
 | [] => Nat.le_refl _
 | [a] => by simp [b64Q, quadP]
 | [a, b] => by simp [b64Q, quadP]
 | a :: b :: c :: r => by
  have ih := b64Q_len r
  show (quadP _ ++ b64Q r).length ≤ _
  rw [List.length_append]
  simp [quadP]
  omega
theorem qpL_len : ∀ (n : Nat) (l : List UInt8), (qpL n l).length ≤ 6 * l.length
 | _, [] => Nat.le_refl _
 | n, c :: r => by
  have hp : (qpPiece c r.isEmpty).length ≤ 3 := by
   unfold qpPiece
   split
   ·simp
   ·exact Nat.le_refl _
  have i1 := qpL_len (qpPiece c r.isEmpty).length r
  have i2 := qpL_len (n + (qpPiece c r.isEmpty).length) r
  unfold qpL
  split
  ·simp only [List.length_append, List.length_cons, List.length_nil]; omega
  ·simp only [List.length_append, List.length_cons]; omega
theorem qpF_len : ∀ (f : Nat) (l : List UInt8), (qpF f l).length ≤ 6 * l.length
 | 0, l => qpL_len 0 l
 | f + 1, l => by
  unfold qpF
  cases hc : crlfCut l with
  | none => exact qpL_len 0 l
  | some q =>
   have h3 := congrArg List.length (crlfCut_some (a := q.1) (b := q.2) hc)
   have h1 := qpL_len 0 q.1
   have h2 := qpF_len f q.2
   simp only [List.length_append, List.length_cons] at h3
   simp only [List.length_append, List.length_cons, List.length_nil]
   omega
theorem encN_len (n : Nat) (s : List UInt8) : (encN n s).length ≤ 12 * s.length + 2 := by
 unfold encN
 split
 ·omega
 ·split
  ·unfold b64P
   have h1 := wrapP_len 0 (b64Q s)
   have h2 := b64Q_len s
   omega
  ·have := qpF_len s.length s
   unfold qpP
   omega
theorem headN_len (k : List UInt8) (h : k = kPlain ∨ k = kBytes ∨ k = kHtml) (n : Nat) (hn : n < 3) : (putP ctN k).length ≤ 100 ∧ (putP cteN (howN n)).length ≤ 100 ∧ (headN k n).length ≤ 200 := by
 rcases h with rfl | rfl | rfl
 ·match n, hn with
  | 0, _ => decide +kernel
  | 1, _ => decide +kernel
  | 2, _ => decide +kernel
 ·match n, hn with
  | 0, _ => decide +kernel
  | 1, _ => decide +kernel
  | 2, _ => decide +kernel
 ·match n, hn with
  | 0, _ => decide +kernel
  | 1, _ => decide +kernel
  | 2, _ => decide +kernel
def Kind15 (k : List UInt8) : Prop := k = kPlain ∨ k = kBytes ∨ k = kHtml
theorem way_lt (h : Int) : wayP h < 3 := by unfold wayP; split; omega; split <;> omega
set_option maxRecDepth 100000 in
theorem laid15_any (kind : List UInt8) (how : Int) (s : List UInt8) (w : World) (hk : Kind15 kind) (hs : s.length ≤ 100000) (hT : Tabs w) :
  Calls Tryz.prog 23 #[.string (ba kind), .int .i64 how, .string (ba s)] w (StrB w (laidN kind (wayP how) s)) := by
 have hkl : kind.length ≤ 100 := by rcases hk with rfl | rfl | rfl <;> decide
 have HP1 := Lib.hid (show ∀ W, Calls Tryz.prog 29 #[.string ⟨#[67, 111, 110, 116, 101, 110, 116, 45, 84, 121, 112, 101]⟩, .string (ba kind)] W (StrB W (putP ctN kind)) from fun W => hput_any ctN kind W (by decide) (by omega))
 have HP2 := Lib.hid (show ∀ W, Calls Tryz.prog 29 #[.string ⟨#[67, 111, 110, 116, 101, 110, 116, 45, 84, 114, 97, 110, 115, 102, 101, 114, 45, 69, 110, 99, 111, 100, 105, 110, 103]⟩, .string ⟨#[56, 98, 105, 116]⟩] W (StrB W (putP cteN how0)) from fun W => hput_any cteN how0 W (by decide) (by decide))
 have HP3 := Lib.hid (show ∀ W, Calls Tryz.prog 29 #[.string ⟨#[67, 111, 110, 116, 101, 110, 116, 45, 84, 114, 97, 110, 115, 102, 101, 114, 45, 69, 110, 99, 111, 100, 105, 110, 103]⟩, .string ⟨#[98, 97, 115, 101, 54, 52]⟩] W (StrB W (putP cteN how1)) from fun W => hput_any cteN how1 W (by decide) (by decide))
 have HP4 := Lib.hid (show ∀ W, Calls Tryz.prog 29 #[.string ⟨#[67, 111, 110, 116, 101, 110, 116, 45, 84, 114, 97, 110, 115, 102, 101, 114, 45, 69, 110, 99, 111, 100, 105, 110, 103]⟩, .string ⟨#[81, 117, 111, 116, 101, 100, 45, 80, 114, 105, 110, 116, 97, 98, 108, 101]⟩] W (StrB W (putP cteN how2)) from fun W => hput_any cteN how2 W (by decide) (by decide))
 have HB6 := Lib.hid (fun W => b64_any s W (by omega))
 have HQP := Lib.hid (fun W (hW : Below w.heap.size w W) => qp_any s W (by omega) (hT.below hW))
 unfold StrB at HP1 HP2 HP3 HP4 HB6 HQP
 have l0 := headN_len kind hk 0 (by decide)
 have l1 := headN_len kind hk 1 (by decide)
 have l2 := headN_len kind hk 2 (by decide)
 have z0 : (ba (putP ctN kind)).size ≤ 100 := by rw [ba_size]; exact l0.1
 have z1 : (ba (putP cteN how0)).size ≤ 100 := by rw [ba_size]; exact l0.2.1
 have z2 : (ba (putP cteN how1)).size ≤ 100 := by rw [ba_size]; exact l1.2.1
 have z3 : (ba (putP cteN how2)).size ≤ 100 := by rw [ba_size]; exact l2.2.1
 have z4 : (ba s).size ≤ 1300000 := by rw [ba_size]; omega
 have z5 : (ba (b64P s)).size ≤ 1300000 := by rw [ba_size]; have := encN_len 1 s; show (encN 1 s).length ≤ _; omega
 have z6 : (ba (qpP s)).size ≤ 1300000 := by rw [ba_size]; have := encN_len 2 s; show (encN 2 s).length ≤ _; omega
 have HF := Lib.hid (fun n => show ba (laidN kind n s) = ba (putP ctN kind) ++ ba (putP cteN (howN n)) ++ ⟨#[13, 10]⟩ ++ ba (encN n s) by unfold laidN headN; rw [← ba_append, ← ba_append, ← ba_append]; rfl)
 have HF0 := Lib.hid (show wayP how = 0 → ba (laidN kind (wayP how) s) = ba (putP ctN kind) ++ ba (putP cteN how0) ++ ⟨#[13, 10]⟩ ++ ba s from fun h => by rw [h]; exact HF.out 0)
 have HF1 := Lib.hid (show wayP how = 1 → ba (laidN kind (wayP how) s) = ba (putP ctN kind) ++ ba (putP cteN how1) ++ ⟨#[13, 10]⟩ ++ ba (b64P s) from fun h => by rw [h]; exact HF.out 1)
 have HF2 := Lib.hid (show wayP how = 2 → ba (laidN kind (wayP how) s) = ba (putP ctN kind) ++ ba (putP cteN how2) ++ ⟨#[13, 10]⟩ ++ ba (qpP s) from fun h => by rw [h]; exact HF.out 2)
 have HST := Lib.hid (show ∀ x w', x = ba (laidN kind (wayP how) s) → Below w.heap.size w w' → StrB w (laidN kind (wayP how) s) (.returned (.string x)) w' from fun x w' h1 h2 => ⟨by rw [h1], h2⟩)
 obtain ⟨A, hA⟩ : ∃ A, ba (putP ctN kind) = A := ⟨_, rfl⟩
 obtain ⟨B0, hB0⟩ : ∃ A, ba (putP cteN how0) = A := ⟨_, rfl⟩
 obtain ⟨B1, hB1⟩ : ∃ A, ba (putP cteN how1) = A := ⟨_, rfl⟩
 obtain ⟨B2, hB2⟩ : ∃ A, ba (putP cteN how2) = A := ⟨_, rfl⟩
 obtain ⟨E1, hE1⟩ : ∃ A, ba (b64P s) = A := ⟨_, rfl⟩
 obtain ⟨E2, hE2⟩ : ∃ A, ba (qpP s) = A := ⟨_, rfl⟩
 obtain ⟨S, hS⟩ : ∃ A, ba s = A := ⟨_, rfl⟩
 obtain ⟨K, hK⟩ : ∃ A, ba kind = A := ⟨_, rfl⟩
 simp only [hA, hK] at HP1
 simp only [hB0] at HP2
 simp only [hB1] at HP3
 simp only [hB2] at HP4
 simp only [hE1, hS] at HB6
 simp only [hE2, hS] at HQP
 simp only [hA, hB0, hS] at HF0
 simp only [hA, hB1, hE1] at HF1
 simp only [hA, hB2, hE2] at HF2
 rw [hA] at z0
 rw [hB0] at z1
 rw [hB1] at z2
 rw [hB2] at z3
 rw [hS] at z4
 rw [hE1] at z5
 rw [hE2] at z6
 rw [hS, hK]
 have HB0w := Lib.hid (Below.refl w.heap.size w)
 clear HF hA hB0 hB1 hB2 hE1 hE2 hS hK l0 l1 l2 hT hk
 go_enter Tryz.func23, Tryz.ntmps23
 go_wp2_with fail
 refine (HP1.out _).mono ?_
 rintro e w1 ⟨rfl, hb1⟩
 have HW1 := Lib.hid hb1
 clear hb1
 by_cases h0 : how = 0
 ·have g0 : (how == 0) = true := by simpa using h0
  have HV := Lib.hid (HF0.out (by unfold wayP; rw [if_pos h0]))
  clear h0
  go_wp2_with fail
  refine (HP2.out _).mono ?_
  rintro e w2 ⟨rfl, hb2⟩
  have HW2 := Lib.hid (HW1.out.trans (hb2.mono HW1.out.size))
  clear hb2
  go_wp2
  go_ret
  exact HST.out _ _ HV.out.symm HW2.out
 ·have g0 : (how == 0) = false := by simpa using h0
  by_cases h1 : how = 1
  ·have g1 : (how == 1) = true := by simpa using h1
   have HV := Lib.hid (HF1.out (by unfold wayP; rw [if_neg h0, if_pos h1]))
   clear h0 h1
   go_wp2_with fail
   refine (HP3.out _).mono ?_
   rintro e w2 ⟨rfl, hb2⟩
   have HW2 := Lib.hid (HW1.out.trans (hb2.mono HW1.out.size))
   clear hb2
   go_wp2_with fail
   refine (HB6.out _).mono ?_
   rintro e w3 ⟨rfl, hb3⟩
   have HW3 := Lib.hid (HW2.out.trans (hb3.mono HW2.out.size))
   clear hb3
   go_wp2
   go_ret
   exact HST.out _ _ HV.out.symm HW3.out
  ·have g1 : (how == 1) = false := by simpa using h1
   have HV := Lib.hid (HF2.out (by unfold wayP; rw [if_neg h0, if_neg h1]))
   clear h0 h1
   go_wp2_with fail
   refine (HP4.out _).mono ?_
   rintro e w2 ⟨rfl, hb2⟩
   have HW2 := Lib.hid (HW1.out.trans (hb2.mono HW1.out.size))
   clear hb2
   go_wp2_with fail
   refine (HQP.out _ HW2.out).mono ?_
   rintro e w3 ⟨rfl, hb3⟩
   have HW3 := Lib.hid (HW2.out.trans (hb3.mono HW2.out.size))
   clear hb3
   go_wp2
   go_ret
   exact HST.out _ _ HV.out.symm HW3.out
end Go.Proofs.YthidbmeaccpjdaaGreatDoor
section
namespace Go.Proofs.YthidbmeaccpjdaaGreatDoor
open Go.RowKit
set_option linter.unusedVariables false
theorem popen_all (w : World) (s : List UInt8) (hs : s.length ≤ 10000000) (hT : Tabs w) : ∀ f, OpenC w s f
 | 0 => popen_any w s 0 hs hT (fun g e => by omega)
 | f + 1 => popen_any w s (f + 1) hs hT (fun g e => by
  obtain rfl : f = g := by omega
  exact popen_all w s hs hT f)
def PartsPost (w : World) (ps : List Prt) (e : Ending) (w' : World) : Prop := ∃ (v : Value) (l : List PartV), e = .returned v ∧ OwnParts w' w.heap.size v (l.map rawQ) ∧ l.map Prod.fst = ps ∧ (∀ q ∈ l, Pars w' w'.heap.size q.2.1 q.2.2.1 q.1.typ.params ∧ ∀ ad, q.2.1 = some ad → w.heap.size ≤ ad.block) ∧ Below w.heap.size w w'
theorem parts_fin {w W w' : World} {N : Nat} {s : List UInt8} {ps : List Prt} {n : Nat} {ro : Option Nat} {v : Value} (hN : w.heap.size = N) (hW : Below N w W) (hz : N + 3 < W.heap.size) (hP : POut N s ps n ro w') (hK : PKeep N none ro W w') (hv : w'.heap[N + 1]? = some (.cells #[v] 31 (0, 0))) : PartsPost w ps (.returned v) w' := by
 subst hN
 obtain ⟨v2, l, h1, he, ho, hlm, hd⟩ := hP.ex
 rw [hv] at h1
 injection h1 with h1
 injection h1 with h1
 have e : v = v2 := by simpa using h1
 subst e
 exact ⟨v, l, rfl, ho.more (by omega), hlm, fun q hq => ⟨(hd q hq).rd, fun ad e => Nat.le_trans (Nat.le_add_right _ 4) ((hd q hq).at_ ad e).1⟩, hW.trans (hK.below hz (fun k e => by cases e))⟩
theorem run_store_func {P : Program} {w : World} {a : Addr} {m : Mode} (F : Fn) (A C : Array Value) : (store a (.func F A C) m).run P w = stored P w a (.func F A C) m := run_store P w a _ m rfl
attribute [local go_sem] run_store_func in
set_option maxRecDepth 100000 in
set_option maxHeartbeats 4000000 in
theorem parse14_any (s : List UInt8) (w : World) (hs : s.length ≤ 10000000) (hT : Tabs w) :
  Calls Tryz.prog 12 #[.string (ba s)] w (PartsPost w (partsP s)) := by
 have HI := Lib.hid (popen_all w s hs hT 8)
 have HPS := Lib.hid (show partsP s = (openM s (8 + 1) ([], 1) (readPt s (-1) 0 0 s.length false)).1 from rfl)
 obtain ⟨N, hN⟩ : ∃ N, w.heap.size = N := ⟨_, rfl⟩
 have HN := Lib.hid hN
 obtain ⟨V, hV⟩ : ∃ V, (((w.alloc (.cells #[.string (ba s)] 9)).alloc (.cells #[.slice none 0 0] 31)).alloc (.cells #[.int .i64 1] 3)).alloc (.cells #[.nilFunc] 50) = V := ⟨_, rfl⟩
 have HBV := Lib.hid (show Below N w V by
  rw [← hV, ← hN]
  exact ((((Below.refl _ _).alloc (Nat.le_refl _) _).alloc (by simp) _).alloc (by simp; omega) _).alloc (by simp; omega) _)
 have HVZ := Lib.hid (show V.heap.size = N + 4 by rw [← hV]; simp [hN])
 have hv0 : V.heap[N]? = some (.cells #[.string (ba s)] 9 (0, 0)) := by
  rw [← hV, ← hN]
  exact (Below.heap_alloc _ _ _ (by simp; omega)).trans ((Below.heap_alloc _ _ _ (by simp; omega)).trans ((Below.heap_alloc _ _ _ (by simp)).trans (MapKept.heap_alloc w _).1))
 have hv1 : V.heap[N + 1]? = some (.cells #[.slice none 0 0] 31 (0, 0)) := by
  have h := (MapKept.heap_alloc (w.alloc (.cells #[.string (ba s)] 9)) (.cells #[.slice none 0 0] 31)).1
  rw [World.size_alloc, hN] at h
  rw [← hV]
  exact (Below.heap_alloc _ _ _ (by simp; omega)).trans ((Below.heap_alloc _ _ _ (by simp; omega)).trans h)
 have hv2 : V.heap[N + 2]? = some (.cells #[.int .i64 1] 3 (0, 0)) := by
  have h := (MapKept.heap_alloc ((w.alloc (.cells #[.string (ba s)] 9)).alloc (.cells #[.slice none 0 0] 31)) (.cells #[.int .i64 1] 3)).1
  rw [World.size_alloc, World.size_alloc, hN] at h
  rw [← hV]
  exact (Below.heap_alloc _ _ _ (by simp; omega)).trans h
 have hv3 : V.heap[N + 3]? = some (.cells #[.nilFunc] 50 (0, 0)) := by
  have h := (MapKept.heap_alloc (((w.alloc (.cells #[.string (ba s)] 9)).alloc (.cells #[.slice none 0 0] 31)).alloc (.cells #[.int .i64 1] 3)) (.cells #[.nilFunc] 50)).1
  rw [World.size_alloc, World.size_alloc, World.size_alloc, hN] at h
  rw [← hV]
  exact h
 obtain ⟨W, hW⟩ : ∃ W, V.setCell ⟨N + 3, 0, none⟩ (.func (.func 33) #[] #[.pointer (some ⟨N + 1, 0, none⟩), .pointer (some ⟨N, 0, none⟩), .pointer (some ⟨N + 2, 0, none⟩), .pointer (some ⟨N + 3, 0, none⟩)]) = W := ⟨_, rfl⟩
 have HBW := Lib.hid (show Below N w W by rw [← hW]; exact HBV.out.setCell (Nat.le_add_right _ 3) _)
 have HSZ := Lib.hid (show W.heap.size = N + 4 by rw [← hW, World.size_setCell]; exact HVZ.out)
 have hh : ∀ k, k ≠ N + 3 → W.heap[k]? = V.heap[k]? := fun k hk => by rw [← hW]; exact Go.RowKit.Below.heap_setCell _ _ _ _ hk
 have hc0 := (hh N (by omega)).trans hv0
 have hc1 := (hh (N + 1) (by omega)).trans hv1
 have hc2 := (hh (N + 2) (by omega)).trans hv2
 have hc3 : W.heap[N + 3]? = some (.cells #[.func (.func 33) #[] #[.pointer (some ⟨N + 1, 0, none⟩), .pointer (some ⟨N, 0, none⟩), .pointer (some ⟨N + 2, 0, none⟩), .pointer (some ⟨N + 3, 0, none⟩)]] 50 (0, 0)) := by rw [← hW]; exact Lib.heap_setCell_same (i := 0) hv3 _
 have w3 := cells_at hv3 0 (u := .nilFunc) rfl
 have y3 := cells_free hv3 0
 have HVV := Lib.hid hV
 have HP0 := Lib.hid (show POut N s [] 1 none W from ⟨hc0, hc2, hc3, .slice none 0 0, [], hc1, rfl, OwnParts.nil_ _ _, rfl, fun q hq => by cases hq⟩)
 have HKE := Lib.hid (show ∀ X, Below W.heap.size W X → X.cell? ⟨N + 3, 0, none⟩ = some (.func (.func 33) #[] #[.pointer (some ⟨N + 1, 0, none⟩), .pointer (some ⟨N, 0, none⟩), .pointer (some ⟨N + 2, 0, none⟩), .pointer (some ⟨N + 3, 0, none⟩)]) ∧ X.cell? ⟨N, 0, none⟩ = some (.string (ba s)) from fun X hX =>
  ⟨cells_at ((hX.block _ (heap_lt hc3)).trans hc3) 0 rfl, cells_at ((hX.block _ (heap_lt hc0)).trans hc0) 0 rfl⟩)
 have HTW := Lib.hid (show ∀ X, Below W.heap.size W X → Tabs X from fun X hX => hT.below (by rw [hN]; exact HBW.out.trans (hX.mono (by rw [← hN]; exact HBW.out.size))))
 have HRD := Lib.hid (show ∀ X, Below W.heap.size W X → Calls Tryz.prog 35 #[.string (ba s), .int .i64 (-1), .int .i64 0, .int .i64 0, .int .i64 (s.length : Int), .bool false] X (PrtPost X (readPt s (-1) 0 0 s.length false)) from fun X hX => read_any s (-1) 0 0 s.length false X hs (Nat.zero_le _) (Nat.le_refl _) (HTW.out X hX))
 have HFT := Lib.hid (read_fit hs (-1) 0 (Nat.zero_le s.length) (Nat.le_refl _) false)
 have HPK := Lib.hid (fun v => read_ok hs (up := -1) (depth := 0) (Nat.zero_le s.length) (Nat.le_refl _) false ⟨by decide, by decide⟩ ⟨by decide, by decide⟩ v)
 obtain ⟨PT, hPT⟩ : ∃ q, readPt s (-1) 0 0 s.length false = q := ⟨_, rfl⟩
 have hdp : PT.depth + (8 : Nat) = 8 := by rw [← hPT]; rfl
 rw [hPT] at HPS HFT
 simp only [hPT] at HRD HPK
 unfold PrtPost at HRD
 have hsz : ((ba s).size : Int) = (s.length : Int) := by rw [ba_size]
 have HOP := Lib.hid (fun (X : World) (A : Option Addr) (m c : Nat) (hX : Below W.heap.size W X) (hr : Pars X X.heap.size A m PT.typ.params) (ho : OwnPars X W.heap.size (.slice A m c) PT.typ.params) =>
  show Calls Tryz.prog 33 #[prtW PT (.slice A m c), .pointer (some ⟨N + 1, 0, none⟩), .pointer (some ⟨N, 0, none⟩), .pointer (some ⟨N + 2, 0, none⟩), .pointer (some ⟨N + 3, 0, none⟩)] X (OpenPost N s (openM s (8 + 1) ([], 1) PT) none X) by
   have h := HI.out X [] 1 none PT A m c _ _ (by rw [hN]; exact HBW.out.trans (hX.mono (by rw [← hN]; exact HBW.out.size))) (by rw [hN]; exact HP0.out.below hX) HFT.out ⟨hr, fun ad e => by
    have h := ho.isCells e
    have := HSZ.out
    exact ⟨by rw [hN]; omega, h.2, fun e2 => by cases e2⟩⟩ (HPK.out _) hdp (by simp) (by decide)
   rw [hN] at h
   exact h)
 have HWZ := Lib.hid hW
 obtain ⟨v3, v0⟩ := HKE.out W (Below.refl _ _)
 clear hW hc0 hc1 hc2 hc3 hPT hdp hT HI hN hv0 hv1 hv2 hv3 hh hV
 go_enter Tryz.func12, Tryz.ntmps12
 go_upto_region 4 with (fail)
 rw [show w.heap.size + 1 + 1 + 1 = w.heap.size + 3 from rfl, show w.heap.size + 1 + 1 = w.heap.size + 2 from rfl, HN.out, HVV.out]
 go_wp2_with fail
 try rw [HWZ.out]
 go_region_held3 (fun w' => w'.cell? ⟨N + 3, 0, none⟩ = some (.func (.func 33) #[] #[.pointer (some ⟨N + 1, 0, none⟩), .pointer (some ⟨N, 0, none⟩), .pointer (some ⟨N + 2, 0, none⟩), .pointer (some ⟨N + 3, 0, none⟩)]) ∧ w'.cell? ⟨N, 0, none⟩ = some (.string (ba s)))
  (first
   | exact HCK.out
   | exact HKE.out _ HX1.out
   | exact HKE.out _ ((Below.refl _ _).drew))
  (first
   | (go_simp; go_at_call 35; refine (HRD.out _ ((Below.refl _ _).drew)).mono ?_; rintro e X1 ⟨v7, rfl, ho7, hb7⟩; obtain ⟨A7, c7, rfl, _, _, hr7⟩ := ho7.reads; (
     have HO7 := Lib.hid ho7
     have HR7 := Lib.hid hr7
     clear ho7 hr7
     have HX1 := Lib.hid (show Below W.heap.size W X1 from (Below.refl _ _).drew.trans (hb7.mono (Nat.le_refl _)))
     clear hb7))
   | (go_simp; go_at_call 33; (
     refine (HOP.out X1 A7 _ c7 HX1.out HR7.out HO7.out).mono ?_
     rintro e W9 ⟨v9, r9, rfl, hP9, hK9⟩
     have HNX := Lib.hid hP9
     have HKX := Lib.hid ((PKeep.ofBelow HX1.out).trans hK9)
     obtain ⟨vz, lz, hz1, -⟩ := hP9.ex
     have HZ1 := Lib.hid hz1
     have cz := cells_at hz1 0 (u := vz) rfl
     have HCK := Lib.hid (show W9.cell? ⟨N + 3, 0, none⟩ = some (.func (.func 33) #[] #[.pointer (some ⟨N + 1, 0, none⟩), .pointer (some ⟨N, 0, none⟩), .pointer (some ⟨N + 2, 0, none⟩), .pointer (some ⟨N + 3, 0, none⟩)]) ∧ W9.cell? ⟨N, 0, none⟩ = some (.string (ba s)) from ⟨cells_at hP9.cp 0 rfl, cells_at hP9.cs 0 rfl⟩)
     clear hP9 hK9 hz1))
   | fail)
 all_goals
  go_wp2
  go_ret
  rw [HPS.out]
  exact parts_fin HN.out HBW.out (by have := HSZ.out; omega) HNX.out HKX.out HZ1.out
end Go.Proofs.YthidbmeaccpjdaaGreatDoor
end
namespace Go.Proofs.YthidbmeaccpjdaaGreatDoor
open Go.RowKit
set_option linter.unusedVariables false
set_option maxHeartbeats 4000000
def WhPost (w : World) (P : Prt) (e : Ending) (w' : World) : Prop := ∃ A n c, e = .returned (.tuple #[prtV P A n c, .bool true]) ∧ Pars w' w'.heap.size A n P.typ.params ∧ Below w.heap.size w w'
set_option maxRecDepth 100000 in
theorem whole_any (s : List UInt8) (P : Prt) (w : World) (hs : s.length ≤ 10000000) (hT : Tabs w) (hP : readPt s (-1) 0 0 s.length false = P) :
  Calls Tryz.prog 24 #[.string (ba s)] w (WhPost w P) := by
 obtain ⟨t, ht⟩ := parts_head s
 rw [hP] at ht
 have HB0 := Lib.hid (show Below w.heap.size w (w.alloc (.cells #[.int .i64 0, .int .i64 0, .int .i64 0, .int .i64 0, .int .i64 0, .string ⟨#[]⟩, .string ⟨#[]⟩, .slice none 0 0, .string ⟨#[]⟩] 26)) from (Below.refl _ _).alloc (Nat.le_refl _) _)
 have HPA := Lib.hid (parse14_any s (w.alloc (.cells #[.int .i64 0, .int .i64 0, .int .i64 0, .int .i64 0, .int .i64 0, .string ⟨#[]⟩, .string ⟨#[]⟩, .slice none 0 0, .string ⟨#[]⟩] 26)) hs (hT.below HB0.out))
 rw [ht] at HPA
 unfold PartsPost at HPA
 have hz := (MapKept.heap_alloc w (.cells #[.int .i64 0, .int .i64 0, .int .i64 0, .int .i64 0, .int .i64 0, .string ⟨#[]⟩, .string ⟨#[]⟩, .slice none 0 0, .string ⟨#[]⟩] 26)).1
 have HZ := Lib.hid hz
 clear ht hP hT hz
 go_enter Tryz.func24, Tryz.ntmps24
 go_wp2_with fail
 refine HPA.out.mono ?_
 rintro e w2 ⟨v, l, rfl, ho, hl, hd, hb⟩
 cases l with
 | nil => cases hl
 | cons q r =>
  obtain ⟨p, A7, m7, c7⟩ := q
  rw [List.map_cons] at hl
  injection hl with hl1 hl2
  dsimp only at hl1
  subst hl1
  obtain ⟨hd0, hd1⟩ := hd _ (List.mem_cons_self ..)
  have HD0 := Lib.hid hd0
  have HD1 := Lib.hid hd1
  have HB2 := Lib.hid (HB0.out.trans (hb.mono HB0.out.size))
  have HZ2 := Lib.hid ((hb.block _ (heap_lt HZ.out)).trans HZ.out)
  obtain ⟨A, c, rfl, -, -, hF⟩ := ho.reads
  obtain ⟨K, hK⟩ : ∃ K, (List.map rawQ ((p, A7, m7, c7) :: r)).length = K := ⟨_, rfl⟩
  have hK1 : 0 < K := by rw [← hK]; simp
  have hx := hF.2 0 (by simp)
  obtain ⟨ad, rfl, hlt, x0, x1, x2, x3, x4, x5, x6, x7, x8, -⟩ := hx
  rw [show ad.add (0 * 9) = ad by simp [Addr.add]] at x0 x1 x2 x3 x4 x5 x6 x7 x8
  simp only [List.map_cons, List.getElem_cons_zero, rawQ, rawP] at x0 x1 x2 x3 x4 x5 x6 x7 x8
  rw [hK]
  have hKI : (0 : Int) < (K : Int) := by omega
  have hK0 : ¬ (K : Int) = 0 := by omega
  have p0 := cells_at HZ2.out 0 (u := .int .i64 0) rfl
  have p1 := cells_at HZ2.out 1 (u := .int .i64 0) rfl
  have p2 := cells_at HZ2.out 2 (u := .int .i64 0) rfl
  have p3 := cells_at HZ2.out 3 (u := .int .i64 0) rfl
  have p4 := cells_at HZ2.out 4 (u := .int .i64 0) rfl
  have p5 := cells_at HZ2.out 5 (u := .string ⟨#[]⟩) rfl
  have p6 := cells_at HZ2.out 6 (u := .string ⟨#[]⟩) rfl
  have p7 := cells_at HZ2.out 7 (u := .slice none 0 0) rfl
  have p8 := cells_at HZ2.out 8 (u := .string ⟨#[]⟩) rfl
  have qq := fun i => cells_free HZ2.out i
  have q0 := qq 0
  have q1 := qq 1
  have q2 := qq 2
  have q3 := qq 3
  have q4 := qq 4
  have q5 := qq 5
  have q6 := qq 6
  have q7 := qq 7
  have q8 := qq 8
  have HNE := Lib.hid (show ∀ ad, A7 = some ad → ad.block ≠ w.heap.size from fun ad e h => by
   have := HD1.out ad e
   rw [World.size_alloc] at this
   omega)
  clear qq ho hl2 hd hd0 hd1 hb hF hlt hK
  go_wp2
  refine bodyPost_ret (v := .tuple #[prtV p A7 m7 c7, .bool true]) (by simp [prtV, results, Tryz.results24, go_sem, p0, p1, p2, p3, p4, p5, p6, p7, p8]; try rfl) rfl ?_
  refine ⟨A7, m7, c7, rfl, ?_, ?_⟩
  ·refine (HD0.out.keepB fun ad e hl => ?_).more (by simp only [World.size_setCell]; exact Nat.le_refl _)
   have hne := HNE.out ad e
   iterate 9 (refine (heap_setCell_other _ _ _ _ hne).trans ?_)
   rfl
  ·iterate 9 (refine Below.setCell ?_ (by exact Nat.le_refl _) _)
   exact HB2.out
end Go.Proofs.YthidbmeaccpjdaaGreatDoor
