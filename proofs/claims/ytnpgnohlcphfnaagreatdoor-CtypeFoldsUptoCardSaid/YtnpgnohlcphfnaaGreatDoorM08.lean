/- Layer 12: the contract of open. Layer 12, plain: a quoted string's escapes. Layer 12, plain: what Line and Write lay is read back by Parse and Disposition. A row of strings of the call's own, and append of one string. -/
import Derived.Test.YtnpgnohlcphfnaaGreatDoorM07
import Derived.Test.YtnpgnohlcphfnaaGreatDoorM01
import Derived.Test.YtnpgnohlcphfnaaGreatDoorM05
import Derived.Test.YtnpgnohlcphfnaaGreatDoorM06
section
namespace Go.Proofs.YtnpgnohlcphfnaaGreatDoor
open Go.RowKit
set_option linter.unusedVariables false

theorem openP_skip (c : UInt8) (r : List UInt8) (h : c ≠ 37 ∨ r.length < 2 ∨ unhexP (r.take 2) = none) : openP (c :: r) = c :: openP r := by
  match r with
  | [] => rfl
  | [x] => rfl
  | x :: y :: t =>
    have e : unhexP ((x :: y :: t).take 2) = match hexV x, hexV y with | some a, some b => some [UInt8.ofNat (a * 16 + b)] | _, _ => none := by
      show unhexP [x, y] = _
      unfold unhexP
      cases hexV x <;> cases hexV y <;> rfl
    rw [e] at h
    conv => lhs; unfold openP
    by_cases hc : c = 37
    · rw [if_pos hc]
      have h2 := h.resolve_left (fun h => h hc)
      have h3 := h2.resolve_left (by simp)
      cases hx : hexV x with
      | none => rfl
      | some a =>
        cases hy : hexV y with
        | none => rfl
        | some b => rw [hx, hy] at h3; cases h3
    · rw [if_neg hc]
theorem openP_take (r z : List UInt8) (h2 : 2 ≤ r.length) (h : unhexP (r.take 2) = some z) : openP (37 :: r) = z ++ openP (r.drop 2) := by
  match r, h2 with
  | x :: y :: t, _ =>
    have e : unhexP ((x :: y :: t).take 2) = match hexV x, hexV y with | some a, some b => some [UInt8.ofNat (a * 16 + b)] | _, _ => none := by
      show unhexP [x, y] = _
      unfold unhexP
      cases hexV x <;> cases hexV y <;> rfl
    rw [e] at h
    conv => lhs; unfold openP
    rw [if_pos rfl]
    cases hx : hexV x with
    | none => rw [hx] at h; cases h
    | some a =>
      cases hy : hexV y with
      | none => rw [hx, hy] at h; cases h
      | some b =>
        rw [hx, hy] at h
        injection h with h
        subst h
        rfl
/-- The state of open's loop. -/
structure OpRel (w : World) (l : List UInt8) (k : Nat) (wr : World) : Prop where
  ex : ∃ acc, Bld wr w.heap.size w.heap.size acc ∧ acc ++ openP (l.drop k) = openP l ∧ acc.length ≤ k
  bel : Below w.heap.size w wr
set_option maxRecDepth 100000 in
set_option maxHeartbeats 4000000 in
theorem open_any (l : List UInt8) (w : World) (hl : l.length ≤ 1000000000) :
    Calls Tryz.prog 108 #[.string (ba l)] w (StrB w (openP l)) := by
  have HB0 := Lib.hid (bld_new w)
  have HEX := Lib.hid (fun i j => ba_cut l i j)
  obtain ⟨n, hn⟩ : ∃ n, l.length = n := ⟨_, rfl⟩
  have HL := Lib.hid hn
  obtain ⟨s, hs⟩ : ∃ s, ba l = s := ⟨_, rfl⟩
  have HS := Lib.hid hs
  have HZ := Lib.hid (show s.size = n by rw [← hs, ba_size, hn])
  have hsz : (s.size : Int) = n := by rw [HZ.out]
  rw [hs]
  rw [hn] at hl
  clear hs hn
  rw [HS.out] at HEX
  go_enter Tryz.func108, Tryz.ntmps108
  go_wp2
  go_loopw [4] (fun i wr => ∃ k : Nat, k ≤ n ∧ i = .int .i64 (k : Int) ∧ Hid (OpRel w l k wr)) (fun i _ => n - (intOf i).toNat)
  case atStart => exact ⟨0, Nat.zero_le _, rfl, Lib.hid ⟨⟨[], HB0.out, rfl, Nat.le_refl _⟩, (Below.refl _ _).alloc (Nat.le_refl _) _⟩⟩
  case round =>
    obtain ⟨k, hk, rfl, HR⟩ := hrel
    obtain ⟨acc, hbld, heq, hal⟩ := HR.out.ex
    have hsz2 := HR.out.bel.size
    have HBL := Lib.hid hbld
    have HEQ0 := Lib.hid heq
    have HAL := Lib.hid hal
    have HBE := Lib.hid HR.out.bel
    have hacl : acc.length ≤ 1000000000 := by omega
    clear HR hbld heq hal
    by_cases hlt : k < n
    · have hk2 : (k : Int) < (n : Int) := by omega
      have hk0 : (0 : Int) ≤ (k : Int) := by omega
      have hks : k < s.size := by rw [HZ.out]; omega
      have hkl : k < l.length := by rw [HL.out]; omega
      have hget : s[k] = l[k] := by
        have h := HS.out
        subst h
        rfl
      have heq := HEQ0.out
      rw [List.drop_eq_getElem_cons hkl] at heq
      have HEQ := Lib.hid heq
      have HW := Lib.hid (fun W (hb : Bld W w.heap.size w.heap.size acc) (hz : w.heap.size ≤ W.heap.size) => write_byte w.heap.size w.heap.size acc l[k] W hb (by omega) hz)
      clear heq
      obtain ⟨c, hc⟩ : ∃ c, l[k] = c := ⟨_, rfl⟩
      rw [hc] at hget HEQ HW
      obtain ⟨x, hx⟩ : ∃ x : Int, (c.toNat : Int) = x := ⟨_, rfl⟩
      have hgi : ((s[k]).toNat : Int) = x := by rw [hget]; exact hx
      have HX := Lib.hid hx
      have hx0 : 0 ≤ x := by omega
      have hx1 : x ≤ 255 := by have := c.toNat_lt; omega
      clear hc hkl hget hx
      rw [HX.out] at HW
      have HRL := Lib.hid (show (l.drop (k + 1)).length = n - (k + 1) by rw [List.length_drop, HL.out])
      by_cases e1 : x = 37 ∧ k + 2 < n
      · have g1 : (x == 37) = true := by simpa using e1.1
        have hc2 : (k : Int) + 2 < (n : Int) := by omega
        have hc3 : (k : Int) + 3 ≤ (n : Int) := by omega
        have HC := Lib.hid (show c = 37 from u8_int_eq.1 (by rw [HX.out]; exact e1.1))
        have hext := HEX.out (k + 1) (k + 3)
        have e2 : (l.take (k + 3)).drop (k + 1) = (l.drop (k + 1)).take 2 := by rw [List.drop_take]; congr 1; omega
        rw [e2] at hext
        have HUL := Lib.hid (show ((l.drop (k + 1)).take 2).length = 2 by rw [List.length_take, HRL.out]; omega)
        have HUN := Lib.hid (fun z => openP_take (l.drop (k + 1)) z (by rw [HRL.out]; omega))
        have HSK := Lib.hid (fun h => openP_skip c (l.drop (k + 1)) (.inr (.inr h)))
        obtain ⟨t, ht⟩ : ∃ t, (l.drop (k + 1)).take 2 = t := ⟨_, rfl⟩
        rw [ht] at hext HUL HUN HSK
        have HUH := Lib.hid (unhex_any t wr (by rw [HUL.out]; omega))
        have HZL := Lib.hid (unhex_len t)
        unfold UnhexPost at HUH
        have HEX2 := Lib.hid hext
        clear e1 e2 ht hext
        cases hu : unhexP t with
        | none =>
          rw [hu] at HUH HSK
          have HE := Lib.hid (show acc ++ c :: openP (l.drop (k + 1)) = openP l by
            have := HEQ.out
            rw [HSK.out rfl] at this
            exact this)
          clear hu
          go_wp2_with fail
          rw [HEX2.out]
          refine HUH.out.mono ?_
          rintro e w2 ⟨rfl, hb2⟩
          have HB2 := Lib.hid hb2
          have hsz3 := hb2.size
          clear hb2
          go_wp2_with fail
          refine (HW.out w2 (HBL.out.below HB2.out) (by omega)).mono ?_
          rintro e w3 ⟨rfl, hW⟩
          have HWR := Lib.hid hW
          clear hW
          go_wp2
          go_roundw
          case rel =>
            refine ⟨k + 1, by omega, by go_num, Lib.hid ⟨⟨_, HWR.out.bld, ?_, ?_⟩, (HBE.out.trans (HB2.out.mono hsz2)).trans HWR.out.bel⟩⟩
            · rw [List.append_assoc]; exact HE.out
            · rw [List.length_append]; have := HAL.out; show acc.length + 1 ≤ k + 1; omega
          case measure => simp [intOf] <;> omega
        | some z =>
          rw [hu] at HUH
          have HE := Lib.hid (show acc ++ (z ++ openP (l.drop (k + 1 + 2))) = openP l by
            have := HEQ.out
            rw [HC.out, HUN.out z hu, List.drop_drop] at this
            exact this)
          have HZ1 := Lib.hid (show z.length = 1 by have := HZL.out z hu; have := HUL.out; omega)
          clear hu
          go_wp2_with fail
          rw [HEX2.out]
          refine HUH.out.mono ?_
          rintro e w2 ⟨rfl, hb2⟩
          have HB2 := Lib.hid hb2
          have hsz3 := hb2.size
          clear hb2
          go_wp2_with fail
          refine (write_string w.heap.size w.heap.size acc z w2 (HBL.out.below HB2.out) (by rw [HZ1.out]; omega) (by omega)).mono ?_
          rintro e w3 ⟨rfl, hW⟩
          have HWR := Lib.hid hW
          clear hW
          go_wp2
          go_roundw
          case rel =>
            refine ⟨k + 3, by omega, by go_num, Lib.hid ⟨⟨_, HWR.out.bld, ?_, ?_⟩, (HBE.out.trans (HB2.out.mono hsz2)).trans HWR.out.bel⟩⟩
            · rw [List.append_assoc]; exact HE.out
            · rw [List.length_append, HZ1.out]; have := HAL.out; omega
          case measure => simp [intOf] <;> omega
      · have HE := Lib.hid (show acc ++ c :: openP (l.drop (k + 1)) = openP l by
          have := HEQ.out
          rw [openP_skip c _ (by
            by_cases h : c = 37
            · refine .inr (.inl ?_)
              rw [HRL.out]
              have : ¬ k + 2 < n := fun h2 => e1 ⟨by rw [← HX.out, h]; rfl, h2⟩
              omega
            · exact .inl h)] at this
          exact this)
        by_cases e2 : x = 37
        · have g1 : (x == 37) = true := by simpa using e2
          have hc2 : ¬ (k : Int) + 2 < (n : Int) := fun h => e1 ⟨e2, by omega⟩
          clear e1 e2
          go_wp2_with fail
          refine (HW.out wr HBL.out hsz2).mono ?_
          rintro e w3 ⟨rfl, hW⟩
          have HWR := Lib.hid hW
          clear hW
          go_wp2
          go_roundw
          case rel =>
            refine ⟨k + 1, by omega, by go_num, Lib.hid ⟨⟨_, HWR.out.bld, ?_, ?_⟩, HBE.out.trans HWR.out.bel⟩⟩
            · rw [List.append_assoc]; exact HE.out
            · rw [List.length_append]; have := HAL.out; show acc.length + 1 ≤ k + 1; omega
          case measure => simp [intOf] <;> omega
        · have g1 : (x == 37) = false := by simpa using e2
          clear e1 e2
          go_wp2_with fail
          refine (HW.out wr HBL.out hsz2).mono ?_
          rintro e w3 ⟨rfl, hW⟩
          have HWR := Lib.hid hW
          clear hW
          go_wp2
          go_roundw
          case rel =>
            refine ⟨k + 1, by omega, by go_num, Lib.hid ⟨⟨_, HWR.out.bld, ?_, ?_⟩, HBE.out.trans HWR.out.bel⟩⟩
            · rw [List.append_assoc]; exact HE.out
            · rw [List.length_append]; have := HAL.out; show acc.length + 1 ≤ k + 1; omega
          case measure => simp [intOf] <;> omega
    · obtain rfl : k = n := by omega
      have HACC := Lib.hid (show acc = openP l by
        have := HEQ0.out
        rw [List.drop_of_length_le (by rw [HL.out]; exact Nat.le_refl _)] at this
        have h0 : openP [] = [] := by unfold openP; rfl
        rw [h0, List.append_nil] at this
        exact this)
      go_wp2_with fail
      refine (bld_string _ _ acc wr HBL.out hsz2).mono ?_
      rintro e w2 ⟨rfl, hW⟩
      have HW := Lib.hid hW
      clear hW
      go_wp2
      go_ret
      exact str_fin (by rw [HACC.out]) (HBE.out.trans HW.out.bel)
end Go.Proofs.YtnpgnohlcphfnaaGreatDoor
end
section
namespace Go.Proofs.YtnpgnohlcphfnaaGreatDoor
open Go.RowKit
set_option linter.unusedVariables false

def escQ (v : List UInt8) : List UInt8 := v.flatMap fun c => if c = 92 ∨ c = 34 then [92, c] else [c]
def nEsc (l : List UInt8) : Nat := l.count 34 + l.count 92
theorem escQ_cons (c : UInt8) (l : List UInt8) : escQ (c :: l) = (if c = 92 ∨ c = 34 then [92, c] else [c]) ++ escQ l := rfl
theorem escQ_len : ∀ l : List UInt8, (escQ l).length = l.length + nEsc l
  | [] => rfl
  | c :: l => by
    rw [escQ_cons, List.length_append, escQ_len l]
    unfold nEsc
    rw [List.count_cons, List.count_cons, List.length_cons]
    by_cases h1 : c = 92
    · subst h1
      simp
      omega
    · by_cases h2 : c = 34
      · subst h2
        simp
        omega
      · rw [if_neg (by simp [h1, h2])]
        have e1 : (c == 34) = false := by simpa using h2
        have e2 : (c == 92) = false := by simpa using h1
        simp [e1, e2]
        omega
theorem escQ_same : ∀ l : List UInt8, nEsc l = 0 → escQ l = l
  | [], _ => rfl
  | c :: l, h => by
    unfold nEsc at h
    rw [List.count_cons, List.count_cons] at h
    have h1 : ¬ (c = 92 ∨ c = 34) := by
      rintro (rfl | rfl)
      · simp at h
      · simp at h
    rw [escQ_cons, if_neg h1, escQ_same l (by unfold nEsc; omega)]
    rfl
theorem escQ_append (a b : List UInt8) : escQ (a ++ b) = escQ a ++ escQ b := List.flatMap_append
theorem escQ_snoc {l : List UInt8} {k : Nat} (hk : k < l.length) : escQ (l.take (k + 1)) = escQ (l.take k) ++ (if l[k] = 92 ∨ l[k] = 34 then [92, l[k]] else [l[k]]) := by
  rw [List.take_succ_eq_append_getElem hk, escQ_append]
  congr 1
  rw [escQ_cons]
  exact List.append_nil _
theorem escQ_take (l : List UInt8) (k : Nat) : (escQ (l.take k)).length ≤ (escQ l).length := by
  conv => rhs; rw [← List.take_append_drop k l, escQ_append, List.length_append]
  omega
theorem nEsc_take {l : List UInt8} {k : Nat} (hk : k < l.length) : nEsc (l.take (k + 1)) = nEsc (l.take k) + (if l[k] = 92 ∨ l[k] = 34 then 1 else 0) := by
  unfold nEsc
  rw [List.take_succ_eq_append_getElem hk, List.count_append, List.count_append, List.count_singleton, List.count_singleton]
  by_cases h1 : l[k] = 92
  · rw [h1]
    simp
    omega
  · by_cases h2 : l[k] = 34
    · rw [h2]
      simp
      omega
    · have e1 : (l[k] == 34) = false := by simpa using h2
      have e2 : (l[k] == 92) = false := by simpa using h1
      simp [e1, e2, h1, h2]
theorem nEsc_le (l : List UInt8) (k : Nat) : nEsc (l.take k) ≤ k := by
  have := escQ_len (l.take k)
  have h2 : ∀ m : List UInt8, nEsc m ≤ m.length := by
    intro m
    induction m with
    | nil => exact Nat.le_refl _
    | cons c m ih =>
      unfold nEsc at ih ⊢
      rw [List.count_cons, List.count_cons, List.length_cons]
      by_cases h1 : c = 92
      · subst h1
        simp
        omega
      · have e2 : (c == 92) = false := by simpa using h1
        rw [e2]
        split <;> simp <;> omega
  have h3 := h2 (l.take k)
  rw [List.length_take] at h3
  omega
/-- What the copying loop has laid: k bytes are done. -/
def bufL (l : List UInt8) (k : Nat) : List UInt8 := escQ (l.take k) ++ List.replicate ((escQ l).length - (escQ (l.take k)).length) 0
theorem bufL_len (l : List UInt8) (k : Nat) : (bufL l k).length = (escQ l).length := by
  unfold bufL
  rw [List.length_append, List.length_replicate]
  have := escQ_take l k
  omega
theorem bufL_zero (l : List UInt8) : bufL l 0 = List.replicate (escQ l).length 0 := by
  unfold bufL
  show escQ [] ++ _ = _
  rw [show escQ [] = [] from rfl]
  rfl
theorem bufL_end (l : List UInt8) {k : Nat} (h : l.length ≤ k) : bufL l k = escQ l := by
  unfold bufL
  rw [List.take_of_length_le h, Nat.sub_self]
  exact List.append_nil _
theorem bufL_one {l : List UInt8} {k : Nat} (hk : k < l.length) (h : ¬ (l[k] = 92 ∨ l[k] = 34)) : bufL l (k + 1) = (bufL l k).set (escQ (l.take k)).length l[k] ∧ (escQ (l.take k)).length < (escQ l).length ∧ (escQ (l.take (k + 1))).length = (escQ (l.take k)).length + 1 := by
  have e := escQ_snoc hk
  rw [if_neg h] at e
  have h1 := escQ_take l (k + 1)
  have h2 : (escQ (l.take (k + 1))).length = (escQ (l.take k)).length + 1 := by rw [e, List.length_append]; rfl
  refine ⟨?_, by omega, h2⟩
  unfold bufL
  rw [List.set_append_right _ _ (Nat.le_refl _), Nat.sub_self, h2]
  rw [show (escQ l).length - (escQ (l.take k)).length = ((escQ l).length - ((escQ (l.take k)).length + 1)) + 1 by omega, List.replicate_succ, List.set_cons_zero, e, List.append_assoc]
  rfl
theorem bufL_two {l : List UInt8} {k : Nat} (hk : k < l.length) (h : l[k] = 92 ∨ l[k] = 34) : bufL l (k + 1) = (bufL l k).take (escQ (l.take k)).length ++ ([92, l[k]] ++ (bufL l k).drop ((escQ (l.take k)).length + 2)) ∧ (escQ (l.take k)).length + 2 ≤ (escQ l).length ∧ (escQ (l.take (k + 1))).length = (escQ (l.take k)).length + 2 := by
  have e := escQ_snoc hk
  rw [if_pos h] at e
  have h1 := escQ_take l (k + 1)
  have h2 : (escQ (l.take (k + 1))).length = (escQ (l.take k)).length + 2 := by rw [e, List.length_append]; rfl
  refine ⟨?_, by omega, h2⟩
  have e3 : (bufL l k).drop ((escQ (l.take k)).length + 2) = List.replicate ((escQ l).length - ((escQ (l.take k)).length + 2)) 0 := by
    unfold bufL
    rw [List.drop_append, List.drop_of_length_le (by omega), List.nil_append, List.drop_replicate]
    congr 1
    omega
  have e4 : (bufL l k).take (escQ (l.take k)).length = escQ (l.take k) := by
    unfold bufL
    exact List.take_left' rfl
  rw [e3, e4]
  unfold bufL
  rw [h2, e, List.append_assoc]
end Go.Proofs.YtnpgnohlcphfnaaGreatDoor
end
section
namespace Go.Proofs.YtnpgnohlcphfnaaGreatDoor
open Go.RowKit
set_option linter.unusedVariables false

theorem bfalse {b : Bool} (h : ¬ b = true) : b = false := by simpa using h
/-- Bytes that stand in atoms, and the dot. -/
def runC (c : UInt8) : Bool := atomB c || c == 46
theorem atom_facts (c : UInt8) : atomB c = true → blankB c = false ∧ opens c = none ∧ specials.contains c = false :=
  u8_all (fun c => atomB c = true → blankB c = false ∧ opens c = none ∧ specials.contains c = false) (by decide +kernel) c
theorem word_facts (c : UInt8) : wordB c = true → runC c = true ∧ c ≠ 61 ∧ c ≠ 42 ∧ c ≠ 47 ∧ blankB c = false ∧ (c ≠ 46 → atomB c = true) ∧ 32 ≤ c ∧ c ≤ 126 :=
  u8_all (fun c => wordB c = true → runC c = true ∧ c ≠ 61 ∧ c ≠ 42 ∧ c ≠ 47 ∧ blankB c = false ∧ (c ≠ 46 → atomB c = true) ∧ 32 ≤ c ∧ c ≤ 126) (by decide +kernel) c
theorem runB_or {c : UInt8} (h : runC c = true) : atomB c = true ∨ c = 46 := by
  unfold runC at h
  rw [Bool.or_eq_true] at h
  exact h.imp id fun h => by simpa using h
theorem front_atom {c : UInt8} {r : List UInt8} (h : atomB c = true) : frontP (c :: r) = (1, ((c :: r).takeWhile atomB).length) := by
  obtain ⟨h1, h2, h3⟩ := atom_facts c h
  rw [frontP_cons, if_neg (by rw [h1]; exact Bool.false_ne_true), h2]
  show (if specials.contains c = true then ((4 : Int), 1) else _) = _
  rw [if_neg (by rw [h3]; exact Bool.false_ne_true), if_pos h]
theorem front_spec {c : UInt8} {r : List UInt8} (h1 : blankB c = false) (h2 : opens c = none) (h3 : specials.contains c = true) : frontP (c :: r) = (4, 1) := by
  rw [frontP_cons, if_neg (by rw [h1]; exact Bool.false_ne_true), h2]
  show (if specials.contains c = true then ((4 : Int), 1) else _) = _
  rw [if_pos h3]
theorem front_dot (r : List UInt8) : frontP (46 :: r) = (4, 1) := front_spec (by decide) (by decide) (by decide)
theorem front_semi (r : List UInt8) : frontP (59 :: r) = (4, 1) := front_spec (by decide) (by decide) (by decide)
theorem takeWhile_stop {p : UInt8 → Bool} (t rest : List UInt8) (h : rest.takeWhile p = []) : (t ++ rest).takeWhile p = t.takeWhile p := by
  induction t with
  | nil => exact h
  | cons c t ih => rw [List.cons_append, List.takeWhile_cons, List.takeWhile_cons, ih]
theorem all_drop {p : UInt8 → Bool} {t : List UInt8} (h : t.all p = true) (k : Nat) : (t.drop k).all p = true := by
  rw [List.all_eq_true] at h ⊢
  exact fun x hx => h x (List.mem_of_mem_drop hx)
theorem scan_runF : ∀ (n : Nat) (t : List UInt8), t.length ≤ n → t.all runC = true → ∀ rest : List UInt8, rest.takeWhile atomB = [] → scanP (t ++ rest) = scanP t ++ scanP rest
  | 0, t, h, _, rest, _ => by
    have : t = [] := List.eq_nil_of_length_eq_zero (by omega)
    subst this
    rw [scanP_nil]
    rfl
  | n + 1, [], _, _, rest, _ => by rw [scanP_nil]; rfl
  | n + 1, c :: t, h, ha, rest, hr => by
    have h1 : frontP (c :: t ++ rest) = frontP (c :: t) := by
      rw [List.all_cons, Bool.and_eq_true] at ha
      rcases runB_or ha.1 with hc | rfl
      · rw [List.cons_append, front_atom hc, front_atom hc, ← List.cons_append, takeWhile_stop _ _ hr]
      · rw [List.cons_append, front_dot, front_dot]
    obtain ⟨h2, h3⟩ := frontP_len (l := c :: t) (by simp)
    rw [scanP_cons (l := c :: t ++ rest) (by simp), h1, scanP_cons (l := c :: t) (by simp), List.take_append_of_le_length h3, List.drop_append_of_le_length h3,
      scan_runF n ((c :: t).drop (frontP (c :: t)).2) (by rw [List.length_drop]; omega) (all_drop ha _) rest hr]
    rfl
theorem scan_run {t rest : List UInt8} (ha : t.all runC = true) (hr : rest.takeWhile atomB = []) : scanP (t ++ rest) = scanP t ++ scanP rest := scan_runF t.length t (Nat.le_refl _) ha rest hr
def RunTok (x : Tok) : Prop := x.kind = 1 ∨ (x.kind = 4 ∧ x.text = [46])
theorem scan_kindsF : ∀ (n : Nat) (t : List UInt8), t.length ≤ n → t.all runC = true → ∀ x ∈ scanP t, RunTok x
  | 0, t, h, _, x, hx => by
    have : t = [] := List.eq_nil_of_length_eq_zero (by omega)
    subst this
    rw [scanP_nil] at hx
    cases hx
  | n + 1, [], _, _, x, hx => by rw [scanP_nil] at hx; cases hx
  | n + 1, c :: t, h, ha, x, hx => by
    obtain ⟨h2, h3⟩ := frontP_len (l := c :: t) (by simp)
    rw [scanP_cons (l := c :: t) (by simp)] at hx
    rcases List.mem_cons.1 hx with rfl | hx
    · rw [List.all_cons, Bool.and_eq_true] at ha
      rcases runB_or ha.1 with hc | rfl
      · exact .inl (by rw [front_atom hc])
      · exact .inr (by rw [front_dot]; exact ⟨rfl, rfl⟩)
    · exact scan_kindsF n _ (by rw [List.length_drop]; omega) (all_drop ha _) x hx
theorem scan_kinds {t : List UInt8} (ha : t.all runC = true) : ∀ x ∈ scanP t, RunTok x := scan_kindsF t.length t (Nat.le_refl _) ha
theorem join_scanF : ∀ (n : Nat) (l : List UInt8), l.length ≤ n → joinP (scanP l) = l
  | 0, l, h => by
    have : l = [] := List.eq_nil_of_length_eq_zero (by omega)
    subst this
    rfl
  | n + 1, [], _ => rfl
  | n + 1, c :: t, h => by
    obtain ⟨h2, h3⟩ := frontP_len (l := c :: t) (by simp)
    rw [scanP_cons (l := c :: t) (by simp)]
    show (c :: t).take _ ++ joinP (scanP _) = _
    rw [join_scanF n _ (by rw [List.length_drop]; omega), List.take_append_drop]
theorem join_scan (l : List UInt8) : joinP (scanP l) = l := join_scanF l.length l (Nat.le_refl _)
theorem RunTok.keep {x : Tok} (h : RunTok x) : keepB x = true ∧ semiB x = false := by
  unfold keepB semiB
  rcases h with h | ⟨h, h2⟩
  · rw [h]; exact ⟨rfl, rfl⟩
  · rw [h, h2]; exact ⟨rfl, rfl⟩
theorem rowsP_cons (t : Tok) (r : List Tok) : rowsP (t :: r) = if semiB t = true then [] :: rowsP r else match rowsP r with
    | [] => [[t]]
    | a :: b => (t :: a) :: b := rfl
theorem rows_app (b : List Tok) : ∀ a : List Tok, (∀ t ∈ a, semiB t = false) → rowsP (a ++ b) = (a ++ (rowsP b).headD []) :: (rowsP b).drop 1
  | [], _ => by
    cases hb : rowsP b with
    | nil => exact absurd hb (rowsP_ne b)
    | cons x r => rw [List.nil_append, hb]; rfl
  | t :: a, h => by
    rw [List.cons_append, rowsP_cons, if_neg (by rw [h t (by simp)]; exact Bool.false_ne_true), rows_app b a fun x hx => h x (by simp [hx])]
    rfl
theorem cut_app {c : UInt8} {b : List UInt8} : ∀ {a : List UInt8}, c ∉ a → cutP c (a ++ c :: b) = some (a, b)
  | [], _ => by show cutP c (c :: b) = _; unfold cutP; rw [if_pos rfl]
  | x :: a, h => by
    rw [List.cons_append]
    unfold cutP
    rw [if_neg (fun e => h (by rw [e]; simp)), cut_app (a := a) fun h2 => h (by simp [h2])]
    rfl
theorem pairG_hit1 {pre bt : List UInt8} {r : List Tok} (h : (61 : UInt8) ∉ pre) : pairG [] (⟨1, pre ++ 61 :: bt⟩ :: r) = some (smallP pre, match bt, r with
      | [], u :: _ => if u.kind = 2 then meanP u else joinP r
      | b, _ => b ++ joinP r) := by
  unfold pairG
  rw [show (if (1 : Int) = 1 then cutP 61 (pre ++ 61 :: bt) else none) = some (pre, bt) from by rw [if_pos rfl, cut_app h]]
  rfl
theorem scan_pre {pre b : List UInt8} (hp : pre.all atomB = true) (hne : pre ≠ []) : scanP (pre ++ 61 :: b) = ⟨1, pre ++ 61 :: b.takeWhile atomB⟩ :: scanP (b.dropWhile atomB) := by
  obtain ⟨c, pre', rfl⟩ : ∃ c r, pre = c :: r := by
    cases pre with
    | nil => exact absurd rfl hne
    | cons c r => exact ⟨c, r, rfl⟩
  have hc : atomB c = true := by rw [List.all_cons, Bool.and_eq_true] at hp; exact hp.1
  have htw : (c :: pre' ++ 61 :: b).takeWhile atomB = c :: pre' ++ 61 :: b.takeWhile atomB := by
    rw [List.takeWhile_append_of_pos (List.all_eq_true.1 hp), List.takeWhile_cons, if_pos (by decide)]
  have ht : c :: pre' ++ 61 :: b = (c :: pre' ++ 61 :: b.takeWhile atomB) ++ b.dropWhile atomB := by
    rw [List.append_assoc]
    show c :: pre' ++ 61 :: b = c :: pre' ++ (61 :: (b.takeWhile atomB ++ b.dropWhile atomB))
    rw [List.takeWhile_append_dropWhile]
  have hfr : frontP (c :: pre' ++ 61 :: b) = (1, (c :: pre' ++ 61 :: b.takeWhile atomB).length) := by
    rw [← htw, List.cons_append, front_atom hc]
  rw [scanP_cons (by simp), hfr]
  congr 1
  · congr 1
    conv => lhs; rw [ht]
    exact List.take_left' rfl
  · congr 1
    conv => lhs; rw [ht]
    exact List.drop_left' rfl
theorem pair_run {pre b : List UInt8} (hp : pre.all atomB = true) (hne : pre ≠ []) (h61 : (61 : UInt8) ∉ pre) (hb : b.all runC = true) : pairP (scanP (pre ++ 61 :: b)) = (smallP pre, b) := by
  have hj := join_scan (b.dropWhile atomB)
  have hk := scan_kinds (t := b.dropWhile atomB) (by
    rw [List.all_eq_true] at hb ⊢
    exact fun x hx => hb x ((List.dropWhile_suffix _).subset hx))
  have hbb : b.takeWhile atomB ++ b.dropWhile atomB = b := List.takeWhile_append_dropWhile
  rw [scan_pre hp hne]
  generalize b.takeWhile atomB = bt at hbb ⊢
  generalize b.dropWhile atomB = bd at hbb hj hk ⊢
  unfold pairP
  rw [pairG_hit1 h61]
  show (smallP pre, _) = _
  generalize scanP bd = S at hj hk ⊢
  subst hbb
  congr 1
  cases bt with
  | nil =>
    cases S with
    | nil => rw [← hj]
    | cons u S =>
      have h2 : ¬ u.kind = 2 := by
        rcases hk u (by simp) with h | h
        · omega
        · omega
      show (if u.kind = 2 then meanP u else joinP (u :: S)) = _
      rw [if_neg h2, hj]
      rfl
  | cons x bt => show (x :: bt) ++ joinP S = _; rw [hj]
def encU (v : List UInt8) : List UInt8 := v.flatMap fun c => if letterB c = true ∨ c = 45 ∨ c = 46 ∨ c = 95 ∨ c = 126 then [c] else [37, hexU (c.toNat / 16), hexU (c.toNat % 16)]
def plainV (v : List UInt8) : Prop := v ≠ [] ∧ allB 33 plainBut v = true
instance (v : List UInt8) : Decidable (plainV v) := inferInstanceAs (Decidable (_ ∧ _))
def wideV (v : List UInt8) : Bool := !decide (plainV v) && !allB 32 [] v
theorem fmtV_eq (v : List UInt8) : fmtV v = if plainV v then 61 :: v else if allB 32 [] v = true then [61, 34] ++ escQ v ++ [34] else [42, 61, 117, 116, 102, 45, 56, 39, 39] ++ encU v := rfl
def nameT (p : List UInt8 × List UInt8) : List UInt8 := if wideV p.2 = true then p.1 ++ [42] else p.1
def valT (v : List UInt8) : List UInt8 := if wideV v = true then [117, 116, 102, 45, 56, 39, 39] ++ encU v else v
/-- A parameter that Write preserves. -/
structure GoodP (p : List UInt8 × List UInt8) : Prop where
  word : isWord p.1 = true
  dot : (46 : UInt8) ∉ p.1
  low : smallP p.1 = p.1
  val : repairP p.2 = p.2
theorem isWord_all {l : List UInt8} (h : isWord l = true) : (∀ c ∈ l, wordB c = true) ∧ l ≠ [] := by
  unfold isWord at h
  rw [Bool.and_eq_true, List.all_eq_true] at h
  exact ⟨h.1, by intro e; rw [e] at h; exact absurd h.2 (by decide)⟩
theorem GoodP.atoms {p : List UInt8 × List UInt8} (h : GoodP p) : p.1.all atomB = true := by
  rw [List.all_eq_true]
  exact fun c hc => (word_facts c ((isWord_all h.word).1 c hc)).2.2.2.2.2.1 fun e => h.dot (e ▸ hc)
theorem GoodP.ne {p : List UInt8 × List UInt8} (h : GoodP p) : p.1 ≠ [] := (isWord_all h.word).2
theorem GoodP.no61 {p : List UInt8 × List UInt8} (h : GoodP p) : (61 : UInt8) ∉ p.1 := fun hc => (word_facts 61 ((isWord_all h.word).1 61 hc)).2.1 rfl
theorem GoodP.no42 {p : List UInt8 × List UInt8} (h : GoodP p) : (42 : UInt8) ∉ p.1 := fun hc => (word_facts 42 ((isWord_all h.word).1 42 hc)).2.2.1 rfl
theorem plain_facts (c : UInt8) : (33 ≤ c ∧ c ≤ 126) ∧ plainBut.contains c = false → runC c = true := u8_all (fun c => (33 ≤ c ∧ c ≤ 126) ∧ plainBut.contains c = false → runC c = true) (by decide +kernel) c
theorem plain_run {v : List UInt8} (h : plainV v) : v.all runC = true := by
  rw [List.all_eq_true]
  intro c hc
  have h2 := h.2
  unfold allB at h2
  rw [List.all_eq_true] at h2
  have h3 := h2 c hc
  rw [Bool.and_eq_true, decide_eq_true_iff, Bool.not_eq_true'] at h3
  exact plain_facts c h3
theorem enc_facts (c : UInt8) : (if letterB c = true ∨ c = 45 ∨ c = 46 ∨ c = 95 ∨ c = 126 then [c] else [37, hexU (c.toNat / 16), hexU (c.toNat % 16)]).all (fun x => runC x && decide (32 ≤ x ∧ x ≤ 126)) = true ∧
    (¬ (letterB c = true ∨ c = 45 ∨ c = 46 ∨ c = 95 ∨ c = 126) → unhexP [hexU (c.toNat / 16), hexU (c.toNat % 16)] = some [c]) :=
  u8_all (fun c => (if letterB c = true ∨ c = 45 ∨ c = 46 ∨ c = 95 ∨ c = 126 then [c] else [37, hexU (c.toNat / 16), hexU (c.toNat % 16)]).all (fun x => runC x && decide (32 ≤ x ∧ x ≤ 126)) = true ∧
    (¬ (letterB c = true ∨ c = 45 ∨ c = 46 ∨ c = 95 ∨ c = 126) → unhexP [hexU (c.toNat / 16), hexU (c.toNat % 16)] = some [c])) (by decide +kernel) c
theorem enc_run (v : List UInt8) : ∀ x ∈ encU v, runC x = true ∧ 32 ≤ x ∧ x ≤ 126 := by
  intro x hx
  unfold encU at hx
  obtain ⟨c, hc, hx⟩ := List.mem_flatMap.1 hx
  have h := (List.all_eq_true.1 (enc_facts c).1) x hx
  rw [Bool.and_eq_true, decide_eq_true_iff] at h
  exact ⟨h.1, h.2⟩
theorem free_no37 (c : UInt8) : (letterB c = true ∨ c = 45 ∨ c = 46 ∨ c = 95 ∨ c = 126) → c ≠ 37 := u8_all (fun c => (letterB c = true ∨ c = 45 ∨ c = 46 ∨ c = 95 ∨ c = 126) → c ≠ 37) (by decide +kernel) c
theorem open_enc : ∀ v : List UInt8, openP (encU v) = v
  | [] => rfl
  | c :: v => by
    have ih := open_enc v
    show openP ((if letterB c = true ∨ c = 45 ∨ c = 46 ∨ c = 95 ∨ c = 126 then [c] else [37, hexU (c.toNat / 16), hexU (c.toNat % 16)]) ++ encU v) = c :: v
    by_cases h : letterB c = true ∨ c = 45 ∨ c = 46 ∨ c = 95 ∨ c = 126
    · rw [if_pos h]
      show openP (c :: encU v) = _
      rw [openP_skip _ _ (.inl (free_no37 c h)), ih]
    · rw [if_neg h]
      show openP (37 :: hexU (c.toNat / 16) :: hexU (c.toNat % 16) :: encU v) = _
      rw [openP_take (hexU (c.toNat / 16) :: hexU (c.toNat % 16) :: encU v) [c] (by simp) ((enc_facts c).2 h)]
      show c :: openP (encU v) = _
      rw [ih]
theorem closeP_two (z : UInt8) (d : Nat) (c x : UInt8) (r : List UInt8) : closeP z d (c :: x :: r) = if c = 92 then (closeP z d r).map (· + 2)
    else if c = z then (if d = 1 then some 1 else (closeP z (d - 1) (x :: r)).map (· + 1))
    else if c = 40 ∧ z = 41 then (closeP z (d + 1) (x :: r)).map (· + 1)
    else (closeP z d (x :: r)).map (· + 1) := by
  conv => lhs; unfold closeP
theorem close_esc (rest : List UInt8) : ∀ v : List UInt8, closeP 34 1 (escQ v ++ 34 :: rest) = some ((escQ v).length + 1)
  | [] => by
    show closeP 34 1 (34 :: rest) = some 1
    cases rest with
    | nil => rfl
    | cons x r => rw [closeP_two, if_neg (by decide), if_pos rfl, if_pos rfl]
  | c :: v => by
    have ih := close_esc rest v
    show closeP 34 1 (((if c = 92 ∨ c = 34 then [92, c] else [c]) ++ escQ v) ++ 34 :: rest) = some (((if c = 92 ∨ c = 34 then [92, c] else [c]) ++ escQ v).length + 1)
    by_cases h : c = 92 ∨ c = 34
    · rw [if_pos h, List.append_assoc]
      show closeP 34 1 (92 :: c :: (escQ v ++ 34 :: rest)) = _
      rw [closeP_two, if_pos rfl, ih]
      simp
    · rw [if_neg h, List.append_assoc]
      obtain ⟨x, r, hL⟩ : ∃ x r, escQ v ++ 34 :: rest = x :: r := by
        cases hq : escQ v ++ 34 :: rest with
        | nil => exact absurd hq (by simp)
        | cons x r => exact ⟨x, r, rfl⟩
      show closeP 34 1 (c :: (escQ v ++ 34 :: rest)) = _
      rw [hL] at ih ⊢
      rw [closeP_two, if_neg (fun e => h (.inl e)), if_neg (fun e => h (.inr e)), if_neg (fun e => absurd e.2 (by decide)), ih]
      simp
theorem unesc_esc : ∀ v : List UInt8, (∀ c ∈ v, 32 ≤ c) → unescP (escQ v) = v
  | [], _ => rfl
  | c :: v, h => by
    have ih := unesc_esc v fun x hx => h x (by simp [hx])
    show unescP ((if c = 92 ∨ c = 34 then [92, c] else [c]) ++ escQ v) = _
    by_cases e : c = 92 ∨ c = 34
    · rw [if_pos e]
      show unescP (92 :: c :: escQ v) = _
      rw [unescP_cons, if_pos rfl]
      show [c] ++ unescP (escQ v) = _
      rw [ih]
      rfl
    · have h32 : 32 ≤ c := h c (by simp)
      rw [if_neg e]
      show unescP (c :: escQ v) = _
      rw [unescP_cons, if_neg (fun x => e (.inl x)), if_neg (by rintro (rfl | rfl) <;> exact absurd h32 (by decide)), ih]
theorem front_quote (v rest : List UInt8) : frontP (34 :: (escQ v ++ 34 :: rest)) = (2, (escQ v).length + 2) := by
  rw [frontP_cons, if_neg (by decide), show opens 34 = some (2, 34) by decide]
  show (match closeP 34 1 (escQ v ++ 34 :: rest) with | some n => ((2 : Int), n + 1) | none => (7, _)) = _
  rw [close_esc]
theorem scan_quote (v rest : List UInt8) : scanP (34 :: (escQ v ++ 34 :: rest)) = ⟨2, 34 :: (escQ v ++ [34])⟩ :: scanP rest := by
  have ht : 34 :: (escQ v ++ 34 :: rest) = (34 :: (escQ v ++ [34])) ++ rest := by simp
  have hl : (34 :: (escQ v ++ [34])).length = (escQ v).length + 2 := by simp
  rw [scanP_cons (by simp), front_quote]
  show (⟨2, (34 :: (escQ v ++ 34 :: rest)).take ((escQ v).length + 2)⟩ : Tok) :: scanP ((34 :: (escQ v ++ 34 :: rest)).drop ((escQ v).length + 2)) = _
  rw [ht, ← hl, List.take_left' rfl, List.drop_left' rfl]
theorem mean_quote {v : List UInt8} (h : ∀ c ∈ v, 32 ≤ c) : meanP ⟨2, 34 :: (escQ v ++ [34])⟩ = v := by
  unfold meanP
  rw [if_neg (by simp)]
  have e : ((34 :: (escQ v ++ [34])).drop 1).take ((34 :: (escQ v ++ [34])).length - 2) = escQ v := by
    rw [show (34 :: (escQ v ++ [34])).length - 2 = (escQ v).length by simp]
    exact List.take_left' rfl
  rw [e, unesc_esc v h]
theorem allB_mem {low : UInt8} {but v : List UInt8} (h : allB low but v = true) : ∀ c ∈ v, low ≤ c ∧ c ≤ 126 := by
  intro c hc
  unfold allB at h
  rw [List.all_eq_true] at h
  have h3 := h c hc
  rw [Bool.and_eq_true, decide_eq_true_iff] at h3
  exact h3.1
/-- What stands behind a parameter: nothing, or a semicolon. -/
def Ends (rest : List UInt8) : Prop := rest = [] ∨ ∃ r, rest = 59 :: r
theorem Ends.stop {rest : List UInt8} (h : Ends rest) : rest.takeWhile atomB = [] := by
  rcases h with rfl | ⟨r, rfl⟩
  · rfl
  · rw [List.takeWhile_cons, if_neg (by decide)]
theorem par_tok {p : List UInt8 × List UInt8} (hg : GoodP p) : ∃ T : List Tok, (∀ x ∈ T, keepB x = true ∧ semiB x = false) ∧ pairP T = (nameT p, valT p.2) ∧ ∀ rest, Ends rest → scanP (p.1 ++ fmtV p.2 ++ rest) = T ++ scanP rest := by
  obtain ⟨n, v⟩ := p
  have hat := hg.atoms
  have hne := hg.ne
  have h61 := hg.no61
  have hlow := hg.low
  simp only at hat hne h61 hlow
  have hrun : n.all runC = true := by
    rw [List.all_eq_true] at hat ⊢
    intro c hc
    unfold runC
    rw [hat c hc]
    rfl
  show ∃ T : List Tok, (∀ x ∈ T, keepB x = true ∧ semiB x = false) ∧ pairP T = (nameT (n, v), valT v) ∧ ∀ rest, Ends rest → scanP (n ++ fmtV v ++ rest) = T ++ scanP rest
  by_cases h1 : plainV v
  · have hw : wideV v = false := by unfold wideV; rw [decide_eq_true h1]; rfl
    have hf : fmtV v = 61 :: v := by rw [fmtV_eq, if_pos h1]
    have hr : (n ++ 61 :: v).all runC = true := by
      rw [List.all_append, hrun, List.all_cons, plain_run h1]
      decide
    refine ⟨scanP (n ++ 61 :: v), fun x hx => (scan_kinds hr x hx).keep, ?_, fun rest he => ?_⟩
    · rw [pair_run hat hne h61 (plain_run h1)]
      unfold nameT valT
      simp only [hw, Bool.false_eq_true, if_false]
      rw [hlow]
    · rw [hf, scan_run hr he.stop]
  · by_cases h2 : allB 32 [] v = true
    · have hw : wideV v = false := by unfold wideV; rw [h2, Bool.not_true, Bool.and_false]
      have hf : fmtV v = [61, 34] ++ escQ v ++ [34] := by rw [fmtV_eq, if_neg h1, if_pos h2]
      have hn2 : (n ++ [61] : List UInt8) = n ++ 61 :: [] := rfl
      refine ⟨[⟨1, n ++ 61 :: []⟩, ⟨2, 34 :: (escQ v ++ [34])⟩], ?_, ?_, fun rest _ => ?_⟩
      · intro x hx
        simp only [List.mem_cons, List.not_mem_nil, or_false] at hx
        rcases hx with rfl | rfl <;> exact ⟨rfl, rfl⟩
      · unfold pairP
        rw [pairG_hit1 h61]
        show (smallP n, if (2 : Int) = 2 then meanP ⟨2, 34 :: (escQ v ++ [34])⟩ else _) = _
        rw [if_pos rfl, mean_quote fun c hc => (allB_mem h2 c hc).1]
        unfold nameT valT
        simp only [hw, Bool.false_eq_true, if_false]
        rw [hlow]
      · have e : n ++ fmtV v ++ rest = n ++ 61 :: (34 :: (escQ v ++ 34 :: rest)) := by rw [hf]; simp
        rw [e, scan_pre hat hne]
        have e1 : (34 :: (escQ v ++ 34 :: rest)).takeWhile atomB = [] := by rw [List.takeWhile_cons, if_neg (by decide)]
        have e2 : (34 :: (escQ v ++ 34 :: rest)).dropWhile atomB = 34 :: (escQ v ++ 34 :: rest) := by rw [List.dropWhile_cons, if_neg (by decide)]
        rw [e1, e2, scan_quote]
        rfl
    · have hw : wideV v = true := by unfold wideV; rw [decide_eq_false h1, bfalse h2]; rfl
      have hf : fmtV v = [42, 61, 117, 116, 102, 45, 56, 39, 39] ++ encU v := by rw [fmtV_eq, if_neg h1, if_neg h2]
      have hb : ([117, 116, 102, 45, 56, 39, 39] ++ encU v).all runC = true := by
        rw [List.all_append, Bool.and_eq_true]
        exact ⟨by decide, List.all_eq_true.2 fun x hx => (enc_run v x hx).1⟩
      have hp : (n ++ [42]).all atomB = true := by rw [List.all_append, hat]; decide
      have h61' : (61 : UInt8) ∉ n ++ [42] := by
        rw [List.mem_append]
        rintro (h | h)
        · exact h61 h
        · exact absurd h (by decide)
      have e0 : n ++ fmtV v = (n ++ [42]) ++ 61 :: ([117, 116, 102, 45, 56, 39, 39] ++ encU v) := by rw [hf]; simp
      have hr : (n ++ fmtV v).all runC = true := by
        rw [e0, List.all_append, List.all_append, hrun]
        show (true && [42].all runC && (runC 61 && ([117, 116, 102, 45, 56, 39, 39] ++ encU v).all runC)) = true
        rw [hb]
        decide
      refine ⟨scanP (n ++ fmtV v), fun x hx => (scan_kinds hr x hx).keep, ?_, fun rest he => scan_run hr he.stop⟩
      rw [e0, pair_run hp (by simp) h61' hb]
      unfold nameT valT
      simp only [hw, if_true]
      have : smallP (n ++ [42]) = n ++ [42] := by
        unfold smallP at hlow ⊢
        rw [List.map_append, hlow]
        rfl
      rw [this]
def tailP (ps : List (List UInt8 × List UInt8)) : List UInt8 := ps.flatMap fun p => [59, 32] ++ p.1 ++ fmtV p.2
theorem tailP_ends : ∀ ps, Ends (tailP ps)
  | [] => .inl rfl
  | p :: ps => .inr ⟨32 :: (p.1 ++ fmtV p.2 ++ tailP ps), by unfold tailP; simp⟩
theorem scan_semi (X : List UInt8) : scanP (59 :: X) = ⟨4, [59]⟩ :: scanP X := by
  rw [scanP_cons (by simp), front_semi]
  rfl
theorem scan_blank {c : UInt8} {X : List UInt8} (h : blankB c = false) : scanP (32 :: c :: X) = ⟨6, [32]⟩ :: scanP (c :: X) := by
  have hf : frontP (32 :: c :: X) = (6, 1) := by
    rw [frontP_cons, if_pos (by decide), List.takeWhile_cons, if_pos (by decide), List.takeWhile_cons, if_neg (by rw [h]; exact Bool.false_ne_true)]
    rfl
  rw [scanP_cons (by simp), hf]
  rfl
theorem bare_app {a b : List Tok} (h : ∀ x ∈ a, keepB x = true) : bareP (a ++ b) = a ++ bareP b := by
  unfold bareP
  rw [List.filter_append, List.filter_eq_self.2 h]
/-- Rows of such pieces of text, each behind a semicolon and a blank. -/
theorem rows_gen {α : Type} {txt : α → List UInt8} {out : α → List UInt8 × List UInt8} : ∀ xs : List α,
    (∀ a ∈ xs, ∃ T : List Tok, (∀ x ∈ T, keepB x = true ∧ semiB x = false) ∧ pairP T = out a ∧ (∃ c r, txt a = c :: r ∧ blankB c = false) ∧ ∀ rest, Ends rest → scanP (txt a ++ rest) = T ++ scanP rest) →
    Ends (xs.flatMap fun a => 59 :: 32 :: txt a) ∧ ∃ R : List (List Tok), rowsP (bareP (scanP (xs.flatMap fun a => 59 :: 32 :: txt a))) = [] :: R ∧ R.map pairP = xs.map out
  | [], _ => ⟨.inl rfl, [], rfl, rfl⟩
  | a :: xs, h => by
    obtain ⟨h0, R, h1, h2⟩ := rows_gen xs fun q hq => h q (by simp [hq])
    obtain ⟨T, h3, h4, ⟨c, r, hcr, hbl⟩, h5⟩ := h a (by simp)
    have h6 := h5 _ h0
    have e : ((a :: xs).flatMap fun a => 59 :: 32 :: txt a) = 59 :: 32 :: (txt a ++ xs.flatMap fun a => 59 :: 32 :: txt a) := rfl
    generalize (xs.flatMap fun a => 59 :: 32 :: txt a) = X at e h0 h1 h6
    rw [e]
    have e2 : txt a ++ X = c :: (r ++ X) := by rw [hcr]; rfl
    refine ⟨.inr ⟨_, rfl⟩, T :: R, ?_, by rw [List.map_cons, h2, h4]; rfl⟩
    rw [scan_semi, e2, scan_blank hbl, ← e2, h6]
    have e3 : bareP (⟨4, [59]⟩ :: ⟨6, [32]⟩ :: (T ++ scanP X)) = ⟨4, [59]⟩ :: (T ++ bareP (scanP X)) := by
      rw [← bare_app fun x hx => (h3 x hx).1]
      rfl
    rw [e3, rowsP_cons, if_pos (by decide), rows_app _ T fun x hx => (h3 x hx).2, h1]
    show [] :: ((T ++ []) :: R) = _
    rw [List.append_nil]
/-- A first piece, and such rows behind it. -/
theorem rows_first1 {first X : List UInt8} {R : List (List Tok)} (hf : first.all runC = true) (he : Ends X) (h1 : rowsP (bareP (scanP X)) = [] :: R) : tokRows (first ++ X) = scanP first :: R := by
  unfold tokRows
  rw [scan_run hf he.stop, bare_app fun x hx => (scan_kinds hf x hx).keep.1, rows_app _ _ fun x hx => (scan_kinds hf x hx).keep.2, h1]
  show (scanP first ++ []) :: R = _
  rw [List.append_nil]
theorem rows_line {first : List UInt8} {ps : List (List UInt8 × List UInt8)} (hf : first.all runC = true) (h : ∀ p ∈ ps, GoodP p) :
    ∃ R : List (List Tok), tokRows (first ++ tailP ps) = scanP first :: R ∧ R.map pairP = ps.map fun p => (nameT p, valT p.2) := by
  obtain ⟨h0, R, h1, h2⟩ := rows_gen (txt := fun p : List UInt8 × List UInt8 => p.1 ++ fmtV p.2) (out := fun p => (nameT p, valT p.2)) ps fun p hp => by
    have hg := h p hp
    obtain ⟨T, h3, h4, h5⟩ := par_tok hg
    refine ⟨T, h3, h4, ?_, h5⟩
    cases hq : p.1 with
    | nil => exact absurd hq hg.ne
    | cons c r => exact ⟨c, r ++ fmtV p.2, rfl, (word_facts c ((isWord_all hg.word).1 c (by rw [hq]; simp))).2.2.2.2.1⟩
  exact ⟨R, rows_first1 hf h0 h1, h2⟩
/-- A parameter as it is read. -/
def oneT (p : List UInt8 × List UInt8) : One1 := ⟨⟨p.1, -1, wideV p.2⟩, valT p.2⟩
theorem no_last {l : List UInt8} (h : (42 : UInt8) ∉ l) : lastP 42 l = none := by
  unfold lastP
  rw [cutP_none.2 (by simpa using h)]
  rfl
theorem where_name {p : List UInt8 × List UInt8} (hg : GoodP p) : whereP (nameT p) = ⟨p.1, -1, wideV p.2⟩ := by
  have hl := no_last hg.no42
  unfold nameT
  by_cases hw : wideV p.2 = true
  · rw [if_pos hw, hw]
    have h1 : 1 < (p.1 ++ [42]).length := by
      have := List.length_pos_iff.2 hg.ne
      simp
      omega
    have h2 : (p.1 ++ [42]).getLast? = some 42 := by simp
    have h3 : (p.1 ++ [42]).dropLast = p.1 := by simp
    unfold whereP
    simp only [decide_eq_true h1, decide_eq_true h2, Bool.and_self, if_true, h3, hl]
  · rw [if_neg hw, bfalse hw]
    have h2 : ¬ p.1.getLast? = some 42 := fun e => hg.no42 (List.mem_of_getLast? e)
    unfold whereP
    simp only [decide_eq_false h2, Bool.and_false, Bool.false_eq_true, if_false, hl]
theorem ones_rows {R : List (List Tok)} {ps : List (List UInt8 × List UInt8)} (h : ∀ p ∈ ps, GoodP p) (hR : R.map pairP = ps.map fun p => (nameT p, valT p.2)) : onesP R = ps.map oneT := by
  unfold onesP
  rw [hR]
  clear hR
  induction ps with
  | nil => rfl
  | cons p ps ih =>
    have hg := h p (by simp)
    have hne : nameT p ≠ [] := by
      unfold nameT
      split
      · simp
      · exact hg.ne
    rw [List.map_cons, List.map_cons, List.filterMap_cons]
    simp only [if_neg hne]
    rw [ih fun q hq => h q (by simp [hq]), where_name hg]
    rfl
theorem find_one {q : One1 → Bool} {p : List UInt8 × List UInt8} : ∀ ps : List (List UInt8 × List UInt8), (ps.map (·.1)).Nodup → p ∈ ps → (∀ p' : List UInt8 × List UInt8, p'.1 ≠ p.1 → q (oneT p') = false) → (ps.map oneT).find? q = if q (oneT p) = true then some (oneT p) else none
  | [], _, h, _ => by cases h
  | a :: ps, hn, h, hq => by
    rw [List.map_cons, List.nodup_cons] at hn
    rw [List.map_cons, List.find?_cons]
    rcases List.mem_cons.1 h with rfl | h
    · by_cases e : q (oneT p) = true
      · rw [if_pos e, e]
      · rw [if_neg e, bfalse e]
        show (ps.map oneT).find? q = none
        rw [List.find?_eq_none]
        intro x hx
        obtain ⟨b, hb, rfl⟩ := List.mem_map.1 hx
        rw [hq b fun e2 => hn.1 (by rw [← e2]; exact List.mem_map.2 ⟨b, hb, rfl⟩)]
        exact Bool.false_ne_true
    · rw [hq a fun e2 => hn.1 (by rw [e2]; exact List.mem_map.2 ⟨p, h, rfl⟩)]
      exact find_one ps hn.2 h hq
theorem cut_utf (e : List UInt8) : splitP ([117, 116, 102, 45, 56, 39, 39] ++ e) = ([117, 116, 102, 45, 56], e) := by
  have h1 : cutP 39 ([117, 116, 102, 45, 56, 39, 39] ++ e) = some ([117, 116, 102, 45, 56], 39 :: e) := cut_app (a := [117, 116, 102, 45, 56]) (b := 39 :: e) (by decide)
  have h2 : cutP 39 (39 :: e) = some ([], e) := cut_app (a := []) (by simp)
  unfold splitP
  simp only [h1, h2]
theorem value_one {ps : List (List UInt8 × List UInt8)} (hn : (ps.map (·.1)).Nodup) {p : List UInt8 × List UInt8} (hp : p ∈ ps) (hv : repairP p.2 = p.2) : valueP (ps.map oneT) p.1 = some p.2 := by
  have h0 : firstP (ps.map oneT) p.1 0 = none := by
    unfold firstP
    rw [List.find?_eq_none]
    intro x hx
    obtain ⟨b, hb, rfl⟩ := List.mem_map.1 hx
    show ¬ (decide (b.1 = p.1) && decide ((-1 : Int) = 0)) = true
    simp
  have h1 := find_one (q := fun x => decide (x.at_ = ⟨p.1, -1, true⟩)) ps hn hp (fun p' e => decide_eq_false fun e2 => e (congrArg Spot3.name e2))
  have h2 := find_one (q := fun x => decide (x.at_.name = p.1) && decide (x.at_.section_ = -1)) ps hn hp (fun p' e => by
    have : decide (p'.1 = p.1) = false := decide_eq_false e
    show (decide (p'.1 = p.1) && _) = false
    rw [this]
    rfl)
  have h2' : firstP (ps.map oneT) p.1 (-1) = some (oneT p) := by
    unfold firstP
    rw [h2]
    have : (decide ((oneT p).at_.name = p.1) && decide ((oneT p).at_.section_ = -1)) = true := by unfold oneT; simp
    rw [if_pos this]
  unfold valueP
  rw [h0]
  by_cases hw : wideV p.2 = true
  · have e : decide ((oneT p).at_ = ⟨p.1, -1, true⟩) = true := by unfold oneT; rw [hw]; simp
    rw [if_pos e] at h1
    simp only [h1]
    have hval : (oneT p).value = [117, 116, 102, 45, 56, 39, 39] ++ encU p.2 := by unfold oneT valT; simp only [hw, if_true]
    rw [hval, cut_utf, open_enc]
    show some (meantP [117, 116, 102, 45, 56] p.2) = _
    unfold meantP
    rw [if_neg (by simp)]
    unfold decodeSet
    rw [show setOf (smallP [117, 116, 102, 45, 56]) = 2 by decide]
    show some (repairP p.2) = _
    rw [hv]
  · have e : ¬ decide ((oneT p).at_ = ⟨p.1, -1, true⟩) = true := by unfold oneT; rw [bfalse hw]; simp
    rw [if_neg e] at h1
    simp only [h1, h2']
    unfold oneT valT
    simp only [bfalse hw, Bool.false_eq_true, if_false]
    rfl
theorem names_fold : ∀ (ps : List (List UInt8 × List UInt8)) (a : List (List UInt8)), (ps.map (·.1)).Nodup → (∀ p ∈ ps, p.1 ∉ a) → (ps.map oneT).foldl (fun a x => if x.at_.name ∈ a then a else a ++ [x.at_.name]) a = a ++ ps.map (·.1)
  | [], a, _, _ => by simp
  | p :: ps, a, hn, h => by
    rw [List.map_cons, List.nodup_cons] at hn
    rw [List.map_cons, List.foldl_cons]
    have h1 : ¬ (oneT p).at_.name ∈ a := h p (by simp)
    rw [if_neg h1, names_fold ps _ hn.2 (fun q hq => by
      rw [List.mem_append]
      rintro (h2 | h2)
      · exact h q (by simp [hq]) h2
      · have e : q.1 = p.1 := List.mem_singleton.1 h2
        exact hn.1 (by rw [← e]; exact List.mem_map.2 ⟨q, hq, rfl⟩))]
    show (a ++ [p.1]) ++ _ = _
    rw [List.append_assoc]
    rfl
theorem params_rows {R : List (List Tok)} {ps : List (List UInt8 × List UInt8)} (h : ∀ p ∈ ps, GoodP p) (hn : (ps.map (·.1)).Nodup) (hR : R.map pairP = ps.map fun p => (nameT p, valT p.2)) : paramsP R = ps := by
  unfold paramsP
  rw [ones_rows h hR]
  have e : namesP (ps.map oneT) = ps.map (·.1) := by
    unfold namesP
    rw [names_fold ps [] hn (fun _ _ => by simp)]
    rfl
  rw [e, List.filterMap_map]
  have h2 : ∀ qs : List (List UInt8 × List UInt8), (∀ q ∈ qs, q ∈ ps) → qs.filterMap ((fun n => (valueP (ps.map oneT) n).map fun v => (n, v)) ∘ (·.1)) = qs := by
    intro qs
    induction qs with
    | nil => intro _; rfl
    | cons q qs ih =>
      intro hq
      have h3 := value_one hn (hq q (by simp)) (h q (hq q (by simp))).val
      rw [List.filterMap_cons]
      have h4 : ((fun n => (valueP (ps.map oneT) n).map fun v => (n, v)) ∘ (·.1)) q = some q := by
        show (valueP (ps.map oneT) q.1).map (fun v => (q.1, v)) = _
        rw [h3]
        rfl
      rw [h4, ih fun x hx => hq x (by simp [hx])]
  exact h2 ps fun _ h => h
theorem word_run {l : List UInt8} (h : isWord l = true) : l.all runC = true := List.all_eq_true.2 fun c hc => (word_facts c ((isWord_all h).1 c hc)).1
theorem lineP_eq (first : List UInt8) (ps : List (List UInt8 × List UInt8)) : lineP first ps = first ++ tailP ps := rfl
/-- Disposition reads back what Line laid. -/
theorem disp_line {k : List UInt8} {ps : List (List UInt8 × List UInt8)} (hk : isWord k = true) (hl : smallP k = k) (h : ∀ p ∈ ps, GoodP p) (hn : (ps.map (·.1)).Nodup) : dispT (lineP k ps) = (k, ps) := by
  obtain ⟨R, h1, h2⟩ := rows_line (ps := ps) (word_run hk) h
  unfold dispT
  rw [lineP_eq, h1]
  show ((if isWord (smallP (joinP (scanP k))) = true then smallP (joinP (scanP k)) else []), paramsP R) = _
  rw [join_scan, hl, if_pos hk, params_rows h hn h2]
/-- Parse reads back what Write laid. -/
theorem parse_line {k s : List UInt8} {ps : List (List UInt8 × List UInt8)} (hk : isWord k = true) (hl : smallP k = k) (hs : isWord s = true) (hls : smallP s = s) (h : ∀ p ∈ ps, GoodP p) (hn : (ps.map (·.1)).Nodup) :
    parseT (lineP (k ++ [47] ++ s) ps) = (⟨k, s, ps⟩, true) := by
  have hf : (k ++ [47] ++ s).all runC = true := by
    rw [List.all_append, List.all_append, word_run hk, word_run hs]
    decide
  obtain ⟨R, h1, h2⟩ := rows_line (ps := ps) hf h
  have hc : cutP 47 (k ++ [47] ++ s) = some (k, s) := by
    rw [List.append_assoc]
    exact cut_app fun hm => (word_facts 47 ((isWord_all hk).1 47 hm)).2.2.2.1 rfl
  unfold parseT
  rw [lineP_eq, h1]
  show (match cutP 47 (joinP (scanP (k ++ [47] ++ s))) with
    | none => ((⟨[116, 101, 120, 116], [112, 108, 97, 105, 110], []⟩ : Typ), false)
    | some q => if isWord q.1 = true ∧ isWord q.2 = true then (⟨smallP q.1, smallP q.2, paramsP R⟩, true) else (⟨[116, 101, 120, 116], [112, 108, 97, 105, 110], []⟩, false)) = _
  rw [join_scan, hc]
  show (if isWord k = true ∧ isWord s = true then ((⟨smallP k, smallP s, paramsP R⟩ : Typ), true) else _) = _
  rw [if_pos ⟨hk, hs⟩, hl, hls, params_rows h hn h2]
/-- What is laid is printable. -/
theorem fmt_print (v : List UInt8) : ∀ c ∈ fmtV v, 32 ≤ c ∧ c ≤ 126 := by
  intro c hc
  rw [fmtV_eq] at hc
  split at hc
  · rename_i h
    rcases List.mem_cons.1 hc with rfl | hc
    · decide
    · have := allB_mem h.2 c hc
      exact ⟨UInt8.le_trans (by decide) this.1, this.2⟩
  · split at hc
    · rename_i h1 h
      rw [List.mem_append, List.mem_append] at hc
      rcases hc with (hc | hc) | hc
      · have : c = 61 ∨ c = 34 := by simpa using hc
        rcases this with rfl | rfl <;> decide
      · unfold escQ at hc
        obtain ⟨x, hx, hc⟩ := List.mem_flatMap.1 hc
        have h2 := allB_mem h x hx
        split at hc
        · have : c = 92 ∨ c = x := by simpa using hc
          rcases this with rfl | rfl
          · decide
          · exact h2
        · have : c = x := by simpa using hc
          rw [this]
          exact h2
      · have : c = 34 := by simpa using hc
        rw [this]
        decide
    · rw [List.mem_append] at hc
      rcases hc with hc | hc
      · have h2 : ([42, 61, 117, 116, 102, 45, 56, 39, 39] : List UInt8).all (fun c => decide (32 ≤ c ∧ c ≤ 126)) = true := by decide
        have := List.all_eq_true.1 h2 c hc
        exact of_decide_eq_true this
      · exact (enc_run v c hc).2
theorem line_print {first : List UInt8} {ps : List (List UInt8 × List UInt8)} (hf : ∀ c ∈ first, 32 ≤ c ∧ c ≤ 126) (h : ∀ p ∈ ps, GoodP p) : ∀ c ∈ lineP first ps, 32 ≤ c ∧ c ≤ 126 := by
  intro c hc
  unfold lineP at hc
  rw [List.mem_append] at hc
  rcases hc with hc | hc
  · exact hf c hc
  · obtain ⟨p, hp, hc⟩ := List.mem_flatMap.1 hc
    rw [List.mem_append, List.mem_append] at hc
    rcases hc with (hc | hc) | hc
    · have : c = 59 ∨ c = 32 := by simpa using hc
      rcases this with rfl | rfl <;> decide
    · exact (word_facts c ((isWord_all (h p hp).word).1 c hc)).2.2.2.2.2.2
    · exact fmt_print p.2 c hc
theorem word_print {l : List UInt8} (h : isWord l = true) : ∀ c ∈ l, 32 ≤ c ∧ c ≤ 126 := fun c hc => (word_facts c ((isWord_all h).1 c hc)).2.2.2.2.2.2
end Go.Proofs.YtnpgnohlcphfnaaGreatDoor
end
section
namespace Go.Proofs.YtnpgnohlcphfnaaGreatDoor
open Go.RowKit
set_option linter.unusedVariables false

theorem str_info : (Tryz.prog.info? 9).map (fun i => (i.zero, i.size, i.bytes)) = some (some (.string ByteArray.empty), 1, 16) := by kernel_rfl
def sv (l : List (List UInt8)) : List Value := l.map fun s => .string (ba s)
theorem sv_snoc (l : List (List UInt8)) (s : List UInt8) : sv (l ++ [s]) = sv l ++ [.string (ba s)] := by simp [sv]
/-- v owns the strings ss, in a row of its own from B on. -/
def OwnStrs (w : World) (B : Nat) (v : Value) (ss : List (List UInt8)) : Prop := w.ownsRow B 9 1 v ss.length (sv ss)
theorem OwnStrs.nil_ (w : World) (B : Nat) : OwnStrs w B (.slice none 0 0) [] := World.ownsRow_nil _ _ _ _
theorem OwnStrs.below {w w' : World} {B : Nat} {v : Value} {ss : List (List UInt8)} (h : OwnStrs w B v ss) (hb : Below w.heap.size w w') : OwnStrs w' B v ss :=
  ownsRow_block h fun b e => hb.block b (h.lt b e).2
theorem OwnStrs.block {w w' : World} {B : Nat} {v : Value} {ss : List (List UInt8)} (h : OwnStrs w B v ss) (hb : ∀ b, v.ownBlock = some b → w'.heap[b]? = w.heap[b]?) : OwnStrs w' B v ss := ownsRow_block h hb
theorem OwnStrs.more {w : World} {B B' : Nat} {v : Value} {ss : List (List UInt8)} (h : OwnStrs w B v ss) (hB : B' ≤ B) : OwnStrs w B' v ss := by
  refine ⟨h.1, ?_⟩
  rcases h.2 with h | ⟨g, cap, cur, h1, h2, h3⟩
  · exact .inl h
  · exact .inr ⟨g, cap, cur, h1, by omega, h3⟩
/-- A run of strings in memory. -/
def Strs (w : World) (B : Nat) (A : Option Addr) (n : Nat) (ss : List (List UInt8)) : Prop := n = ss.length ∧ Run w B A (sv ss)
theorem OwnStrs.strs {w : World} {B : Nat} {v : Value} {ss : List (List UInt8)} (h : OwnStrs w B v ss) : ∃ A c, v = .slice A ss.length c ∧ ss.length ≤ c ∧ c ≤ maxLen ∧ Strs w w.heap.size A ss.length ss := by
  have h0 := h
  rcases h.2 with ⟨rfl, hn⟩ | ⟨g, cap, cur, rfl, hb, hg, h1, h2, h3, h4⟩
  · have : ss = [] := List.eq_nil_of_length_eq_zero hn
    subst this
    exact ⟨none, 0, rfl, Nat.le_refl _, by simp, rfl, .inl rfl⟩
  · exact ⟨_, cap, rfl, h1, h2, rfl, Run.of_own h0⟩
/-- append of one string onto a slice of the call's own. -/
theorem wpList_pushStr {ops : Array Oper} {rest : List Oper} {o : Oper} {a : Act} {W : World} {Q : Exit → Act → World → Prop} {B : Nat} {s : List UInt8} {v : Value} {ss : List (List UInt8)} (hown : OwnStrs W B v ss) (hB : B ≤ W.heap.size)
    (hlen : ss.length < 1099511627776) (hgd : o.guard = none) (x y : Operand) (t : TypeId) (c : Nat)
    (ho : o.op = .call { callee := .builtin .append, args := #[x, y], argTypes := #[t, t] }) (ht : Tryz.prog.underlying t = some (.slice 9))
    (hs : a.eval x = v) (hx : a.eval y = .slice (some ⟨W.heap.size, 0, none⟩) 1 c)
    (h : ∀ v' w', OwnStrs w' B v' (ss ++ [s]) → W.grownBy w' v.ownBlock → (v'.ownBlock = v.ownBlock ∨ ∃ k, v'.ownBlock = some k ∧ W.heap.size ≤ k) → wpList Tryz.prog ops Q rest (a.put o.dst v') w') :
    wpList Tryz.prog ops Q (o :: rest) a (W.alloc (.cells #[.string (ba s)] 9)) := by
  obtain ⟨i0, hi, hz0, hz1, hz2⟩ := info_parts str_info
  refine wpList_append_own_at _ hgd x y t ho B 9 i0 _ 1 16 ht hi hz0 hz1 hz2 rfl (by omega) v ss.length (sv ss) hs (World.ownsRow.alloc hown _) ⟨W.heap.size, 0, none⟩ 1 c [.string (ba s)] hx rfl (cell_one_new _ _ _) ?_ (by simp only [maxLen]; omega) (by omega) (by simp; omega) ?_
  · intro u hu; simp at hu; subst hu; rfl
  · intro v' w' h1 h2 _ h4
    refine h v' w' ?_ ?_ ?_
    · show w'.ownsRow B _ 1 v' _ _
      rw [sv_snoc]; simpa using h1
    · have h5 := World.grownBy_alloc W (.cells #[.string (ba s)] 9) v.ownBlock
      exact ⟨h2.os.trans h5.os, h2.tape.trans h5.tape, h2.output.trans h5.output, Nat.le_trans h5.size h2.size, fun k hk hne => (h2.block k (by simp; omega) hne).trans (h5.block k hk hne)⟩
    · rcases h4 with h4 | h4
      · exact .inl h4
      · exact .inr ⟨_, h4, by simp⟩
end Go.Proofs.YtnpgnohlcphfnaaGreatDoor
end
