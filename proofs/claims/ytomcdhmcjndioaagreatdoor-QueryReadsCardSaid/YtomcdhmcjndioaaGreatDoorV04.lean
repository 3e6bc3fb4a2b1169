/- strings.IndexRune of a rune beyond ASCII in an ASCII string. Layer 1, plain: a decimal number in canonical form, as strconv reads it. Reference 07: leap, year, month. Reference 07: Days. Reference 07: Civil, at a day that has a date. Layer 7: div, count. A row of bytes of the call's own: append of one byte, and its string. The reference of layer 37: small. -/
import Derived.Test.YtomcdhmcjndioaaGreatDoorShelfP
import Derived.Lib.IndexLaws
import Derived.Lib.IndexAny
import Derived.BigQuiet
import Derived.Deep.QuietTactic
import Derived.Lib.AtoiAll
import Derived.WalkSmall
import Derived.Laws.IdiomStrings
import Derived.Laws.BytesArg
import Derived.Lib.UnsafeStr
import Derived.Test.YtomcdhmcjndioaaGreatDoorV02
import Derived.Test.YtomcdhmcjndioaaGreatDoorV03
import Derived.Test.YtomcdhmcjndioaaGreatDoorV01
section
namespace Go.Proofs.YtomcdhmcjndioaaGreatDoor
open Go.RowKit
set_option linter.unusedVariables false

theorem enc_high (r : Nat) (h1 : 128 ≤ r) (h2 : r ≤ 1114111) (h3 : r < 55296 ∨ 57343 < r) : ∃ l : List UInt8, Utf8.encode (r : Int) = ba l ∧ 2 ≤ l.length ∧ l.length ≤ 4 ∧ ∀ c ∈ l, 128 ≤ c.toNat := by
  have key : ∀ l : List UInt8, (Utf8.encode (r : Int)).data.toList = l → Utf8.encode (r : Int) = ba l := fun l h => by
    subst h
    exact (ba_eq _).symm
  have v : Utf8.valid (r : Int) = true := by simp [Utf8.valid]; omega
  have hm : ∀ a : Nat, a < 128 → (UInt8.ofNat (128 + a)).toNat = 128 + a := fun a h => by simp; omega
  have c1 : ¬ r < 128 := by omega
  by_cases c2 : r < 2048
  · refine ⟨[UInt8.ofNat (128 + (64 + r / 64)), UInt8.ofNat (128 + r % 64)], key _ ?_, by simp, by simp, ?_⟩
    · have e1 : 128 + (64 + r / 64) = 192 + r / 64 := by omega
      rw [e1]
      simp [Utf8.encode, v, c1, c2]
    · intro c hc
      simp only [List.mem_cons, List.not_mem_nil, or_false] at hc
      rcases hc with rfl | rfl <;> rw [hm _ (by omega)] <;> omega
  by_cases c3 : r < 65536
  · refine ⟨[UInt8.ofNat (128 + (96 + r / 4096)), UInt8.ofNat (128 + r / 64 % 64), UInt8.ofNat (128 + r % 64)], key _ ?_, by simp, by simp, ?_⟩
    · have e1 : 128 + (96 + r / 4096) = 224 + r / 4096 := by omega
      rw [e1]
      simp [Utf8.encode, v, c1, c2, c3]
    · intro c hc
      simp only [List.mem_cons, List.not_mem_nil, or_false] at hc
      rcases hc with rfl | rfl | rfl <;> rw [hm _ (by omega)] <;> omega
  · refine ⟨[UInt8.ofNat (128 + (112 + r / 262144)), UInt8.ofNat (128 + r / 4096 % 64), UInt8.ofNat (128 + r / 64 % 64), UInt8.ofNat (128 + r % 64)], key _ ?_, by simp, by simp, ?_⟩
    · have e1 : 128 + (112 + r / 262144) = 240 + r / 262144 := by omega
      rw [e1]
      simp [Utf8.encode, v, c1, c2, c3]
    · intro c hc
      simp only [List.mem_cons, List.not_mem_nil, or_false] at hc
      rcases hc with rfl | rfl | rfl | rfl <;> rw [hm _ (by omega)] <;> omega
theorem indexByte_not {l : List UInt8} {c : UInt8} (h : c ∉ l) : Lib.indexByte l c = -1 := by
  have h1 := Lib.indexByte_ge l c
  by_cases e : Lib.indexByte l c < 0
  · omega
  · obtain ⟨o, ho⟩ : ∃ o : Nat, Lib.indexByte l c = o := ⟨(Lib.indexByte l c).toNat, by omega⟩
    exact absurd (List.mem_of_getElem? (Lib.indexByte_some ho).1) h
/-- An ASCII string of 4 to 8 bytes: what IndexRune is called on here. -/
def Asc (l : List UInt8) : Prop := 4 ≤ l.length ∧ l.length ≤ 8 ∧ ∀ c ∈ l, c.toNat < 128
theorem asc_unit {l : List UInt8} {k : Nat} (h : Asc l) (hk : k < l.length) : ((uN (l.drop k)).1 = l[k].toNat ∧ (uN (l.drop k)).2 = 1) := by
  have hne : l.drop k ≠ [] := by intro e; have := congrArg List.length e; rw [List.length_drop] at this; simp at this; omega
  have hb : bt (l.drop k) 0 = l[k].toNat := by
    unfold bt
    rw [List.drop_eq_getElem_cons hk]
    rfl
  have hl := h.2.2 l[k] (List.getElem_mem hk)
  rcases uN_cases _ hne with h1 | h1 | h1 | h1 <;> rw [hb] at h1 <;> omega
set_option maxRecDepth 100000 in
set_option maxHeartbeats 4000000 in
theorem indexRune_bad (l : List UInt8) (hl : Asc l) (w : World) :
    Calls Tryz.prog 43 #[.string (ba l), .int .i32 65533] w fun e w' => e = .returned (.int .i64 (-1)) ∧ Below w.heap.size w w' := by
  have HA := Lib.hid hl
  have hsz : (ba l).size = l.length := ba_size l
  have HSZ := Lib.hid hsz
  have HL8 := Lib.hid hl.2.1
  clear hsz hl
  go_enter Tryz.func43, Tryz.ntmps43
  go_wp2
  go_loopw [] (fun wr => ∃ pos : Nat, pos ≤ (ba l).size ∧ Hid (Below w.heap.size w wr ∧ wr.heap[w.heap.size]? = some (.stringIter (ba l) pos))) (fun wr => (ba l).size - wr.iterPos w.heap.size)
  case atStart => exact ⟨0, Nat.zero_le _, Lib.hid ⟨(Below.refl w.heap.size w).alloc (Nat.le_refl _) _, (MapKept.heap_alloc w (.stringIter (ba l) 0)).1⟩⟩
  case round =>
    obtain ⟨pos, hpos, HR⟩ := hrel
    have hit := HR.out.2
    have hszr : w.heap.size < wr.heap.size := heap_lt hit
    by_cases hp : pos < (ba l).size
    · have hnx0 : ∀ ty, (Instr.next (.pointer (some ⟨w.heap.size, 0, none⟩)) true ty).run Tryz.prog wr = _ := fun ty => Lib.run_next_any_at wr w.heap.size (ba l) pos ty hit hp
      have hdec : Utf8.decode (ba l) pos = uN (l.drop pos) := uN_at l pos
      have hkl : pos < l.length := by rw [← HSZ.out]; exact hp
      obtain ⟨u1, u2⟩ := asc_unit HA.out hkl
      have hlt := HA.out.2.2 l[pos] (List.getElem_mem hkl)
      obtain ⟨⟨r, n⟩, hrn⟩ : ∃ q, uN (l.drop pos) = q := ⟨_, rfl⟩
      rw [hrn] at hdec u1 u2
      rw [hdec] at hnx0
      dsimp only at u1 u2 hnx0
      have hr : r < 128 := by omega
      have hreq : ((r : Int) == 65533) = false := by simp; omega
      have hit2 := Lib.iterAt_heap wr w.heap.size (ba l) pos (pos + n) hit
      have hbw2 := Lib.below_iterAt HR.out.1 (k := w.heap.size) (by omega) (ba l) (pos + n)
      obtain ⟨W, hW⟩ : ∃ W, wr.iterAt w.heap.size (ba l) (pos + n) = W := ⟨_, rfl⟩
      rw [hW] at hnx0 hit2 hbw2
      have hnx := hnx0
      have HF := Lib.hid (And.intro hbw2 hit2)
      have HIT := Lib.hid hit
      have HN := Lib.hid u2
      clear hnx0 hit hit2 hbw2 hrn hdec u1 u2 hlt hr hkl hW HR
      go_wp2
      go_roundw
      case rel => exact ⟨pos + n, by have := HN.out; omega, HF⟩
      case measure =>
        simp only [World.iterPos, HF.out.2, HIT.out]
        have := HN.out
        omega
    · have hnx : ∀ ty, (Instr.next (.pointer (some ⟨w.heap.size, 0, none⟩)) true ty).run Tryz.prog wr = _ := fun ty => Lib.run_next_end_at wr w.heap.size (ba l) pos ty hit hp
      clear hit
      go_wp2
      go_ret
      exact ⟨rfl, HR.out.1⟩
set_option maxRecDepth 100000 in
set_option maxHeartbeats 4000000 in
theorem indexRune_high (l : List UInt8) (hl : Asc l) (r : Nat) (h1 : 128 ≤ r) (h2 : r ≤ 1114111) (h3 : r < 55296 ∨ 57343 < r) (w : World) :
    Calls Tryz.prog 43 #[.string (ba l), .int .i32 (r : Int)] w fun e w' => e = .returned (.int .i64 (-1)) ∧ Below w.heap.size w w' := by
  by_cases hb : r = 65533
  · subst hb
    exact indexRune_bad l hl w
  · obtain ⟨t, ht, t1, t2, t3⟩ := enc_high r h1 h2 h3
    have HV := Lib.hid (Tryz.utf8_ValidRune (r : Int))
    have HVT := Lib.hid (show Lib.validRune (r : Int) = true by unfold Lib.validRune; simp; omega)
    obtain ⟨ri, hri⟩ : ∃ x : Int, (r : Int) = x := ⟨_, rfl⟩
    have r1 : 128 ≤ ri := by omega
    have r2 : ri ≤ 1114111 := by omega
    have g1 : (ri == 65533) = false := by simp; omega
    rw [hri] at ht HV HVT
    obtain ⟨q, hq⟩ : ∃ q, t.length = q + 1 := ⟨t.length - 1, by omega⟩
    have hq1 : 1 ≤ q := by omega
    have hq2 : q ≤ 3 := by omega
    have hql : q < l.length := by have := hl.1; omega
    have hqt : q < t.length := by omega
    have hx := hl.2.2 l[q] (List.getElem_mem hql)
    have hy := t3 t[q] (List.getElem_mem hqt)
    obtain ⟨n, hn⟩ : ∃ n, l.length = n := ⟨_, rfl⟩
    have HI := Lib.hid (fun W => Tryz.strings_IndexByte (ba (l.drop (q + 1))) (t[q].toNat : Int) W)
    have HNO := Lib.hid (show Lib.indexByte (ba (l.drop (q + 1))).data.toList ((t[q].toNat : Int).toNat.toUInt8) = -1 by
      rw [ba_list]
      have : ((t[q].toNat : Int)).toNat.toUInt8 = t[q] := by simp
      rw [this]
      refine indexByte_not fun hm => ?_
      have := hl.2.2 _ (List.mem_of_mem_drop hm)
      omega)
    have HD := Lib.hid (ba_drop l (q + 1))
    obtain ⟨s, hs⟩ : ∃ s, ba l = s := ⟨_, rfl⟩
    obtain ⟨u, hu⟩ : ∃ u, ba t = u := ⟨_, rfl⟩
    have hs1 : (s.size : Int) = n := by rw [← hs, ba_size, hn]
    have hu1 : (u.size : Int) = (q : Int) + 1 := by rw [← hu, ba_size, hq]; rfl
    have hqs : q < s.size := by rw [← hs, ba_size]; exact hql
    have hqu : q < u.size := by rw [← hu, ba_size]; exact hqt
    have gs : s[q] = l[q] := by subst hs; rfl
    have gu : u[q] = t[q] := by subst hu; rfl
    obtain ⟨x, hxx⟩ : ∃ x : Int, ((s[q]).toNat : Int) = x := ⟨_, rfl⟩
    obtain ⟨y, hyy⟩ : ∃ y : Int, ((u[q]).toNat : Int) = y := ⟨_, rfl⟩
    rw [← gs] at hx
    rw [← gu] at hy HI HNO
    rw [hyy] at HI HNO
    rw [hs] at HD ⊢
    rw [hu] at ht
    have hne : (x == y) = false := by simp; omega
    have hne2 : (x != y) = true := by simp; omega
    have q0 : (0 : Int) ≤ (q : Int) := by omega
    have q3 : (q : Int) < (n : Int) := by omega
    have q4 : (q : Int) + 1 ≤ (n : Int) := by omega
    have HQ := Lib.hid hqs
    have HS := Lib.hid hs1
    rw [hri]
    have HI2 := Lib.hid (show ∀ W, Calls Tryz.prog 41 #[.string (s.extract (q + 1) s.size), .int .u8 y] W fun e w' => e = .returned (.int .i64 (-1)) ∧ w' = W from fun W => by
      rw [HD.out, ← HNO.out]
      exact HI.out W)
    clear HI HNO HD
    clear hs hu hl t1 t2 t3 h1 h2 h3 hb gs gu hq hqt hx hy hri hn
    go_enter Tryz.func43, Tryz.ntmps43
    go_wp2_with fail
    refine (HV.out w).mono ?_
    rintro e w1 ⟨rfl, rfl⟩
    rw [HVT.out]
    go_wp2
    go_step3
    go_wp2
    go_loop [9, 10, 11, 12] (fun i f o j => ∃ x y : Value, o = x ∧ j = y ∧ i = .int .i64 (q : Int) ∧ f = .int .i64 0) (fun _ _ _ _ => 0)
    case atStart => exact ⟨_, _, rfl, rfl, rfl, rfl⟩
    case round =>
      obtain ⟨o, j, rfl, rfl, rfl, rfl⟩ := hrel
      go_wp2
      go_step3
      go_wp2
      go_quiet (fail)
      go_wp2
      obtain ⟨w2, hw2⟩ : ∃ w2, w1.drewN nq = w2 := ⟨_, rfl⟩
      have HW := Lib.hid hw2
      rw [hw2]
      clear hw2
      go_quiet ((go_at_call 41; exact Calls.quiet_of_same (HI2.out _)))
      go_wp2
      rw [Exit.noGoto_ret]
      simp +zetaDelta only [Exit.inBlock, Exit.then, Exit.noGoto_ret]
      go_ret
      exact ⟨rfl, by rw [← HW.out]; exact ⟨rfl, rfl, rfl, Nat.le_refl _, fun _ _ => rfl⟩⟩
/-- strings.IndexRune in an ASCII string, of whatever rune a decoder hands out. -/
def runeIdx (l : List UInt8) (r : Nat) : Int := if r < 128 then Lib.indexByte l r.toUInt8 else -1
theorem indexRune_any (l : List UInt8) (hl : Asc l) (r : Nat) (h2 : r ≤ 1114111) (h3 : r < 55296 ∨ 57343 < r) (w : World) :
    Calls Tryz.prog 43 #[.string (ba l), .int .i32 (r : Int)] w fun e w' => e = .returned (.int .i64 (runeIdx l r)) ∧ Below w.heap.size w w' := by
  unfold runeIdx
  by_cases h : r < 128
  · rw [if_pos h]
    refine (Tryz.strings_IndexRune_ascii (ba l) (r : Int) w (by omega) (by omega)).mono ?_
    rintro e w' ⟨rfl, rfl⟩
    exact ⟨rfl, Below.refl _ _⟩
  · rw [if_neg h]
    exact indexRune_high l hl r (by omega) h2 h3 w
theorem uN_valid (l : List UInt8) (h : l ≠ []) : (uN l).1 ≤ 1114111 ∧ ((uN l).1 < 55296 ∨ 57343 < (uN l).1) := by
  have := bt_lt l 0; have := bt_lt l 1
  rcases uN_cases l h with h1 | h1 | h1 | h1 <;> omega
theorem uN_byte {l : List UInt8} {k : Nat} (hk : k < l.length) (h : (uN (l.drop k)).1 < 128) : (uN (l.drop k)).1 = l[k].toNat ∧ (uN (l.drop k)).2 = 1 := by
  have hne : l.drop k ≠ [] := by intro e; have := congrArg List.length e; rw [List.length_drop] at this; simp at this; omega
  have hb : bt (l.drop k) 0 = l[k].toNat := by
    unfold bt
    rw [List.drop_eq_getElem_cons hk]
    rfl
  rcases uN_cases _ hne with h1 | h1 | h1 | h1 <;> rw [hb] at h1 <;> omega
/-- A unit that is no ASCII byte: each of its bytes is beyond ASCII. -/
theorem uN_far {l : List UInt8} {k : Nat} (hk : k < l.length) (h : 128 ≤ (uN (l.drop k)).1) : ∀ j (hj : j < l.length), k ≤ j → j < k + (uN (l.drop k)).2 → 128 ≤ l[j].toNat := by
  have hne : l.drop k ≠ [] := by intro e; have := congrArg List.length e; rw [List.length_drop] at this; simp at this; omega
  have hb : ∀ i (hi : k + i < l.length), bt (l.drop k) i = l[k + i].toNat := fun i hi => by
    unfold bt
    rw [List.getD_eq_getElem?_getD, List.getElem?_drop, List.getElem?_eq_getElem hi]
    rfl
  intro j hj h1 h2
  obtain ⟨i, rfl⟩ : ∃ i, j = k + i := ⟨j - k, by omega⟩
  have e := hb i hj
  rw [← e]
  rcases uN_cases _ hne with h3 | h3 | h3 | h3
  · obtain rfl : i = 0 := by omega
    omega
  · rcases (show i = 0 ∨ i = 1 by omega) with rfl | rfl <;> omega
  · rcases (show i = 0 ∨ i = 1 ∨ i = 2 by omega) with rfl | rfl | rfl <;> omega
  · rcases (show i = 0 ∨ i = 1 ∨ i = 2 ∨ i = 3 by omega) with rfl | rfl | rfl | rfl <;> omega
theorem runeIdx_in {l : List UInt8} {r : Nat} (hr : r < 128) : decide (0 ≤ runeIdx l r) = l.contains r.toUInt8 := by
  unfold runeIdx
  rw [if_pos hr, Lib.contains_iff_indexByte]
set_option maxRecDepth 100000 in
set_option maxHeartbeats 4000000 in
theorem indexAny_short (l cs : List UInt8) (hc : Asc cs) (h8 : l.length ≤ 8) (w : World) :
    Calls Tryz.prog 26 #[.string (ba l), .string (ba cs)] w fun e w' => e = .returned (.int .i64 (Lib.indexAny l cs)) ∧ Below w.heap.size w w' := by
  have HC := Lib.hid hc
  have hsz : (ba l).size = l.length := ba_size l
  have HSZ := Lib.hid hsz
  have gz : (ba cs).toList.isEmpty = false := by
    rw [ba_toList]
    have := hc.1
    cases cs with
    | nil => simp at this
    | cons a r => rfl
  have g1 : (((ba cs).size : Int) == 1) = false := by rw [ba_size]; have := hc.1; simp; omega
  have HU := Lib.hid (show decide ((8 : Int) < ((ba l).size : Int)) = false from decide_eq_false (by rw [ba_size]; omega))
  have HIR := Lib.hid (indexRune_any cs hc)
  rw [← hsz] at h8
  clear hsz hc
  go_enter Tryz.func26, Tryz.ntmps26
  go_wp2_with fail
  refine (Tryz.strings_shouldUseASCIISet _ w).mono ?_
  rintro e w1 ⟨rfl, rfl⟩
  rw [HU.out]
  go_wp2
  go_loopw [9, 10] (fun i c wr => ∃ (x y : Value) (pos : Nat), i = x ∧ c = y ∧ pos ≤ (ba l).size ∧ Hid (Below w1.heap.size w1 wr ∧ wr.heap[w1.heap.size]? = some (.stringIter (ba l) pos) ∧ Lib.NoAny l cs pos)) (fun _ _ wr => (ba l).size - wr.iterPos w1.heap.size)
  case atStart => exact ⟨_, _, 0, rfl, rfl, Nat.zero_le _, Lib.hid ⟨(Below.refl w1.heap.size w1).alloc (Nat.le_refl _) _, (MapKept.heap_alloc w1 (.stringIter (ba l) 0)).1, Lib.NoAny.zero _ _⟩⟩
  case round =>
    obtain ⟨x0, y0, pos, rfl, rfl, hpos, HR⟩ := hrel
    have hit := HR.out.2.1
    have hszr : w1.heap.size < wr.heap.size := heap_lt hit
    by_cases hp : pos < (ba l).size
    · have hnx0 : ∀ ty, (Instr.next (.pointer (some ⟨w1.heap.size, 0, none⟩)) true ty).run Tryz.prog wr = _ := fun ty => Lib.run_next_any_at wr w1.heap.size (ba l) pos ty hit hp
      have hdec : Utf8.decode (ba l) pos = uN (l.drop pos) := uN_at l pos
      have hkl : pos < l.length := by rw [← HSZ.out]; exact hp
      have hne : l.drop pos ≠ [] := by intro e; have := congrArg List.length e; rw [List.length_drop] at this; simp at this; omega
      have HV := Lib.hid (uN_valid _ hne)
      have HB := Lib.hid (@uN_byte l pos hkl)
      have HF := Lib.hid (@uN_far l pos hkl)
      have hup := uN_pos _ hne
      rw [List.length_drop] at hup
      have HUP := Lib.hid hup
      obtain ⟨⟨r, n⟩, hrn⟩ : ∃ q, uN (l.drop pos) = q := ⟨_, rfl⟩
      rw [hrn] at hdec HV HB HF HUP
      rw [hdec] at hnx0
      have hit2 := Lib.iterAt_heap wr w1.heap.size (ba l) pos (pos + n) hit
      have hbw2 := Lib.below_iterAt HR.out.1 (k := w1.heap.size) (by omega) (ba l) (pos + n)
      dsimp only at hnx0
      obtain ⟨W, hW⟩ : ∃ W, wr.iterAt w1.heap.size (ba l) (pos + n) = W := ⟨_, rfl⟩
      rw [hW] at hnx0 hit2 hbw2
      have hnx := hnx0
      have HW := Lib.hid (And.intro hbw2 hit2)
      have HIT := Lib.hid hit
      have HNO := Lib.hid HR.out.2.2
      clear hnx0 hit hit2 hbw2 hrn hdec hup hne hW HR
      obtain ⟨v, hv⟩ : ∃ v, runeIdx cs r = v := ⟨_, rfl⟩
      have HVV := Lib.hid hv
      have HCALL := Lib.hid (HIR.out r HV.out.1 HV.out.2)
      rw [hv] at HCALL
      clear hv
      by_cases hge : 0 ≤ v
      · have HHIT := Lib.hid (show Lib.indexAny l cs = (pos : Int) by
          have hr : r < 128 := by
            by_cases h : r < 128
            · exact h
            · have := HVV.out
              unfold runeIdx at this
              rw [if_neg h] at this
              omega
          have h1 := HB.out hr
          have h2 := runeIdx_in (l := cs) hr
          rw [HVV.out, decide_eq_true hge] at h2
          refine Lib.indexAny_hit HNO.out (List.getElem?_eq_getElem hkl) ?_
          have h3 : r.toUInt8 = l[pos] := by
            have := h1.1
            dsimp only at this
            rw [this]; simp
          rw [← h3]; exact h2.symm)
        go_wp2_with fail
        refine (HCALL.out W).mono ?_
        rintro e w2 ⟨rfl, hb2⟩
        have HB2 := Lib.hid (HW.out.1.trans (hb2.mono HW.out.1.size))
        clear hb2
        go_wp2
        go_ret
        exact ⟨by rw [HHIT.out]; rfl, HB2.out⟩
      · have HNEXT := Lib.hid (show Lib.NoAny l cs (pos + n) from fun j b hj hb => by
          by_cases hjp : j < pos
          · exact HNO.out j b hjp hb
          · obtain ⟨hjl, rfl⟩ := List.getElem?_eq_some_iff.1 hb
            by_cases hr : r < 128
            · have h1 := HB.out hr
              dsimp only at h1
              obtain rfl : j = pos := by omega
              have h2 := runeIdx_in (l := cs) hr
              rw [HVV.out, decide_eq_false hge] at h2
              have h3 : r.toUInt8 = l[j] := by rw [h1.1]; simp
              rw [← h3]; exact h2.symm
            · have h4 := HF.out (by dsimp only; omega) j hjl (by omega) (by dsimp only; omega)
              cases hcn : cs.contains l[j] with
              | false => rfl
              | true =>
                have hm : l[j] ∈ cs := by simpa using hcn
                have := HC.out.2.2 _ hm
                omega)
        have HN1 := Lib.hid HUP.out
        go_wp2_with fail
        refine (HCALL.out W).mono ?_
        rintro e w2 ⟨rfl, hb2⟩
        have HB2 := Lib.hid (HW.out.1.trans (hb2.mono HW.out.1.size))
        have HIT2 := Lib.hid ((hb2.block _ (heap_lt HW.out.2)).trans HW.out.2)
        clear hb2
        go_wp2
        go_roundw
        case rel => exact ⟨_, _, pos + n, rfl, rfl, by have := HUP.out; have := HSZ.out; omega, Lib.hid ⟨HB2.out, HIT2.out, HNEXT.out⟩⟩
        case measure =>
          simp only [World.iterPos, HIT2.out, HIT.out]
          have := HUP.out
          omega
    · have hnx : ∀ ty, (Instr.next (.pointer (some ⟨w1.heap.size, 0, none⟩)) true ty).run Tryz.prog wr = _ := fun ty => Lib.run_next_end_at wr w1.heap.size (ba l) pos ty hit hp
      have HE := Lib.hid (show Lib.indexAny l cs = -1 from Lib.indexAny_none (by
        have := HR.out.2.2
        have e : pos = l.length := by have := HSZ.out; omega
        rw [← e]; exact this))
      have HBB := Lib.hid HR.out.1
      clear hit HR
      go_wp2
      go_ret
      exact ⟨by rw [HE.out]; rfl, HBB.out⟩
theorem indexAny_any (l cs : List UInt8) (hc : Asc cs) (hl : l.length ≤ 1000000000) (w : World) :
    Calls Tryz.prog 26 #[.string (ba l), .string (ba cs)] w fun e w' => e = .returned (.int .i64 (Lib.indexAny l cs)) ∧ Below w.heap.size w w' := by
  by_cases h8 : l.length ≤ 8
  · exact indexAny_short l cs hc h8 w
  · have h1 := hc.1
    have h2 := hc.2.1
    have hz : (Tryz.prog.info? 80).map (fun i => (i.zero, i.size)) = some (some (.agg (Array.replicate 256 (.bool false))), 256) := by kernel_rfl
    refine (Tryz.strings_IndexAny_long (zero_of_info hz).1 (ba l) (ba cs) w (by rw [ba_size]; omega) (by rw [ba_size]; omega) (by rw [ba_size]; omega) (by rw [ba_size]; omega) (fun j b hb => hc.2.2 b (List.mem_of_getElem? hb))).mono ?_
    rintro e w' ⟨rfl, rfl⟩
    exact ⟨rfl, ((Below.refl _ _).alloc (Nat.le_refl _) _).alloc (by simp) _⟩
theorem containsRune_any (l : List UInt8) (hl : Asc l) (r : Nat) (h2 : r ≤ 1114111) (h3 : r < 55296 ∨ 57343 < r) (w : World) :
    Calls Tryz.prog 85 #[.string (ba l), .int .i32 (r : Int)] w fun e w' => e = .returned (.bool (decide (0 ≤ runeIdx l r))) ∧ Below w.heap.size w w' := by
  have HI := Lib.hid (indexRune_any l hl r h2 h3)
  go_enter Tryz.func85, Tryz.ntmps85
  go_wp2_with fail
  refine (HI.out _).mono ?_
  rintro e w1 ⟨rfl, hb⟩
  have HB := Lib.hid hb
  clear hb
  go_wp2
  go_ret
  exact ⟨rfl, HB.out⟩
end Go.Proofs.YtomcdhmcjndioaaGreatDoor
end
section
namespace Go.Proofs.YtomcdhmcjndioaaGreatDoor
open Go.RowKit
set_option linter.unusedVariables false

def decA (a : Nat) (l : List UInt8) : Nat := l.foldl (fun a c => a * 10 + (c.toNat - 48)) a
theorem decA_ge : ∀ (l : List UInt8) (a : Nat), a ≤ decA a l
  | [], a => Nat.le_refl _
  | c :: r, a => by
    have := decA_ge r (a * 10 + (c.toNat - 48))
    show a ≤ decA (a * 10 + (c.toNat - 48)) r
    omega
theorem digitB_nat {c : UInt8} : digitB c = true ↔ 48 ≤ c.toNat ∧ c.toNat ≤ 57 := by
  unfold digitB
  rw [decide_eq_true_iff, UInt8.le_iff_toNat_le, UInt8.le_iff_toNat_le]
  exact Iff.rfl
theorem parse_digits : ∀ (l : List UInt8) (a : Nat), a < 18446744073709551616 → l.all digitB = true →
    (Lib.parseUint10 a l = .ok (decA a l) ∧ decA a l < 18446744073709551616) ∨ (Lib.parseUint10 a l = .range ∧ 18446744073709551616 ≤ decA a l)
  | [], a, h, _ => .inl ⟨rfl, h⟩
  | c :: r, a, h, hd => by
    rw [List.all_cons, Bool.and_eq_true] at hd
    have hc := digitB_nat.1 hd.1
    have hge := decA_ge r (a * 10 + (c.toNat - 48))
    have e : decA a (c :: r) = decA (a * 10 + (c.toNat - 48)) r := rfl
    unfold Lib.parseUint10
    rw [if_pos hc, e]
    by_cases h1 : 1844674407370955162 ≤ a
    · rw [if_pos h1]; exact .inr ⟨rfl, by omega⟩
    · rw [if_neg h1]
      by_cases h2 : 18446744073709551616 ≤ a * 10 + (c.toNat - 48)
      · rw [if_pos h2]; exact .inr ⟨rfl, by omega⟩
      · rw [if_neg h2]; exact parse_digits r _ (by omega) hd.2
/-- The digits behind the sign. -/
def decD (l : List UInt8) : List UInt8 := if l.head? = some 45 then l.drop 1 else l
def decN (l : List UInt8) : Int := if l.head? = some 45 then -(decV (decD l) : Int) else (decV (decD l) : Int)
def canonB (l : List UInt8) : Prop := (decD l).all digitB = true ∧ decD l ≠ [] ∧ ¬ ((decD l).head? = some 48 ∧ l ≠ [48])
instance (l : List UInt8) : Decidable (canonB l) := inferInstanceAs (Decidable (_ ∧ _))
theorem decP_eq (l : List UInt8) (lo hi : Int) : decP l lo hi = if canonB l ∧ lo ≤ decN l ∧ decN l ≤ hi then some (decN l) else none := by
  unfold decP canonB decN decD
  by_cases h : l.head? = some 45
  · simp only [h, if_true]
    by_cases h2 : (l.drop 1).all digitB = true ∧ l.drop 1 ≠ [] ∧ ¬ ((l.drop 1).head? = some 48 ∧ l ≠ [48])
    · simp only [h2, not_false_eq_true, and_self, if_true, true_and, ne_eq]
    · simp only [ne_eq] at h2
      simp only [ne_eq, h2, if_false, false_and]
  · simp only [h, if_false]
    by_cases h2 : l.all digitB = true ∧ l ≠ [] ∧ ¬ (l.head? = some 48 ∧ l ≠ [48])
    · simp only [h2, not_false_eq_true, and_self, if_true, true_and, ne_eq]
    · simp only [ne_eq] at h2
      simp only [ne_eq, h2, if_false, false_and]
/-- What Atoi makes of it. -/
theorem atoi_canon {l : List UInt8} (h : canonB l) : (Lib.atoiAll l = .ok (decN l) ∧ -9223372036854775808 ≤ decN l ∧ decN l ≤ 9223372036854775807) ∨ (Lib.atoiAll l = .range ∧ (decN l < -9223372036854775808 ∨ 9223372036854775807 < decN l)) := by
  obtain ⟨h1, h2, h3⟩ := h
  have hp := parse_digits (decD l) 0 (by omega) h1
  have hm : Lib.parseMag (decD l) = Lib.parseUint10 0 (decD l) := by unfold Lib.parseMag; rw [if_neg h2]
  have hv : decV (decD l) = decA 0 (decD l) := rfl
  rw [← hm, ← hv] at hp
  cases l with
  | nil => exact absurd rfl h2
  | cons c r =>
    by_cases hc : c = 45
    · subst hc
      have e1 : decD (45 :: r) = r := rfl
      have e2 : decN (45 :: r) = -(decV r : Int) := rfl
      rw [e1] at hp
      rw [e2]
      unfold Lib.atoiAll
      have t2 : (45 : UInt8).toNat = 45 := rfl
      simp only [t2, or_true, if_true]
      rcases hp with ⟨hp, hq⟩ | ⟨hp, hq⟩
      · rw [hp]
        by_cases hb : 9223372036854775808 < decV r
        · refine .inr ⟨by simp [hb], by omega⟩
        · refine .inl ⟨by simp [hb], by omega, by omega⟩
      · rw [hp]
        exact .inr ⟨rfl, by omega⟩
    · have hh : ¬ (c :: r).head? = some 45 := fun e => hc (Option.some.inj e)
      have e1 : decD (c :: r) = c :: r := by unfold decD; rw [if_neg hh]
      have e2 : decN (c :: r) = (decV (c :: r) : Int) := by unfold decN; rw [if_neg hh, e1]
      rw [e1] at hp h1
      rw [e2]
      have hcd := digitB_nat.1 (by rw [List.all_cons, Bool.and_eq_true] at h1; exact h1.1)
      have t1 : ¬ c.toNat = 43 := by omega
      have t2 : ¬ c.toNat = 45 := by omega
      unfold Lib.atoiAll
      simp only [t1, t2, or_self, if_false]
      rcases hp with ⟨hp, hq⟩ | ⟨hp, hq⟩
      · rw [hp]
        by_cases hb : 9223372036854775808 ≤ decV (c :: r)
        · refine .inr ⟨by simp [hb], by omega⟩
        · refine .inl ⟨by simp [hb], by omega, by omega⟩
      · rw [hp]
        exact .inr ⟨rfl, by omega⟩
end Go.Proofs.YtomcdhmcjndioaaGreatDoor
end
section
namespace Go.Proofs.YtomcdhmcjndioaaGreatDoor
open Go.RowKit
set_option linter.unusedVariables false

set_option maxRecDepth 100000 in
set_option maxHeartbeats 4000000 in
theorem rleap_any (y : Nat) (hy : y ≤ 100000) (w : World) : Calls Tryz.prog 168 #[.int .i64 (y : Int)] w fun e w' => e = .returned (.bool (leapQ y)) ∧ Below w.heap.size w w' := by
  go_enter Tryz.func168, Tryz.ntmps168
  go_wp2
  all_goals
    go_ret
    refine ⟨?_, Below.refl _ _⟩
    refine congrArg (fun b => Ending.returned (Value.bool b)) ?_
    rw [Bool.eq_iff_iff]
    unfold leapQ
    simp
    omega
set_option maxRecDepth 100000 in
set_option maxHeartbeats 4000000 in
theorem ryear_any (y : Nat) (hy1 : 1 ≤ y) (hy : y ≤ 100000) (w : World) : Calls Tryz.prog 150 #[.int .i64 (y : Int)] w fun e w' => e = .returned (.int .i64 (yearQ y)) ∧ Below w.heap.size w w' := by
  go_enter Tryz.func150, Tryz.ntmps150
  go_wp2
  go_ret
  refine ⟨?_, Below.refl _ _⟩
  congr 2
set_option maxRecDepth 100000 in
set_option maxHeartbeats 4000000 in
theorem rmonth_any (y m : Nat) (hy1 : 1 ≤ y) (hy : y ≤ 100000) (hm1 : 1 ≤ m) (hm : m ≤ 12) (w : World) : Calls Tryz.prog 149 #[.int .i64 (y : Int), .int .i64 (m : Int)] w fun e w' => e = .returned (.int .i64 (monQ y m : Nat)) ∧ Below w.heap.size w w' := by
  have HLE := Lib.hid (fun W => rleap_any y hy W)
  rcases (show m = 2 ∨ (m = 1 ∨ m = 3 ∨ m = 4 ∨ m = 5 ∨ m = 6 ∨ m = 7 ∨ m = 8 ∨ m = 9 ∨ m = 10 ∨ m = 11 ∨ m = 12) by omega) with h | h
  · subst h
    have hm2 : monQ y 2 = if leapQ y then 29 else 28 := rfl
    obtain ⟨b, hb0⟩ : ∃ b, leapQ y = b := ⟨_, rfl⟩
    rw [hb0] at hm2 HLE
    have HM := Lib.hid hm2
    clear hm2 hb0
    go_enter Tryz.func149, Tryz.ntmps149
    go_wp2_with fail
    refine (HLE.out w).mono ?_
    rintro e w1 ⟨rfl, hb⟩
    have HB := Lib.hid hb
    cases b
    · clear hb HLE
      go_wp2
      go_ret
      refine ⟨?_, HB.out.alloc HB.out.size _⟩
      rw [HM.out]; rfl
    · clear hb HLE
      go_wp2
      go_ret
      refine ⟨?_, HB.out⟩
      rw [HM.out]; rfl
  · rcases h with h | h | h | h | h | h | h | h | h | h | h <;> subst h
    all_goals
      go_enter Tryz.func149, Tryz.ntmps149
      go_wp2
      go_ret
      exact ⟨rfl, (Below.refl _ _).alloc (Nat.le_refl _) _⟩
end Go.Proofs.YtomcdhmcjndioaaGreatDoor
end
section
namespace Go.Proofs.YtomcdhmcjndioaaGreatDoor
open Go.RowKit
set_option linter.unusedVariables false

theorem date_no {y m d : Nat} (h : ¬ (1 ≤ y ∧ y ≤ 9999 ∧ 1 ≤ m ∧ m ≤ 12 ∧ 1 ≤ d ∧ d ≤ monQ y m)) : daysQ y m d = 0 := by
  unfold daysQ
  rw [if_neg]
  intro e
  unfold dateB at e
  simp only [Bool.and_eq_true, decide_eq_true_eq] at e
  exact h ⟨e.1.1.1.1.1, e.1.1.1.1.2, e.1.1.1.2, e.1.1.2, e.1.2, e.2⟩
theorem date_yes {y m d : Nat} (h : 1 ≤ y ∧ y ≤ 9999 ∧ 1 ≤ m ∧ m ≤ 12 ∧ 1 ≤ d ∧ d ≤ monQ y m) : daysQ y m d = dayQ y m d := by
  unfold daysQ
  rw [if_pos]
  unfold dateB
  simp only [Bool.and_eq_true, decide_eq_true_eq]
  omega
def DayPost (w : World) (v : Int) (e : Ending) (w' : World) : Prop := e = .returned (.int .i64 v) ∧ Below w.heap.size w w'
theorem cum_step (y k : Nat) (hk : 1 ≤ k) : cumQ y (k + 1) = cumQ y k + monQ y k := by
  obtain ⟨j, rfl⟩ : ∃ j, k = j + 1 := ⟨k - 1, by omega⟩
  rfl
set_option maxRecDepth 100000 in
set_option maxHeartbeats 4000000 in
theorem rdays_any (y m d : Nat) (hy : y ≤ 100000) (hm : m ≤ 100000) (hd : d ≤ 100000) (w : World) : Calls Tryz.prog 133 #[.int .i64 (y : Int), .int .i64 (m : Int), .int .i64 (d : Int)] w (DayPost w (daysQ y m d)) := by
  unfold DayPost
  go_enter Tryz.func133, Tryz.ntmps133
  have HNO := Lib.hid (date_no (y := y) (m := m) (d := d))
  have HYES := Lib.hid (date_yes (y := y) (m := m) (d := d))
  by_cases h1 : 1 ≤ y ∧ y ≤ 9999 ∧ 1 ≤ m ∧ m ≤ 12 ∧ 1 ≤ d
  · obtain ⟨a1, a2, a3, a4, a5⟩ := h1
    have g1 : decide ((y : Int) < 1) = false := decide_eq_false (by omega)
    have g2 : decide ((9999 : Int) < (y : Int)) = false := decide_eq_false (by omega)
    have g3 : decide ((m : Int) < 1) = false := decide_eq_false (by omega)
    have g4 : decide ((12 : Int) < (m : Int)) = false := decide_eq_false (by omega)
    have g5 : decide ((d : Int) < 1) = false := decide_eq_false (by omega)
    have HMO := Lib.hid (fun W k (h1 : 1 ≤ k) (h2 : k ≤ 12) => rmonth_any y k a1 hy h1 h2 W)
    have HYE := Lib.hid (fun W => ryear_any y a1 hy W)
    go_wp2_with fail
    refine (HMO.out w m a3 a4).mono ?_
    rintro e w1 ⟨rfl, hb1⟩
    have HB1 := Lib.hid hb1
    clear hb1
    by_cases h6 : d ≤ monQ y m
    · have HV := Lib.hid (HYES.out ⟨a1, a2, a3, a4, a5, h6⟩)
      have HDY := Lib.hid (day_year y m d)
      have g6 : decide (monQ y m < d) = false := decide_eq_false (by omega)
      obtain ⟨M, hM⟩ : ∃ M, monQ y m = M := ⟨_, rfl⟩
      rw [hM] at g6 ⊢
      clear hM h6 HNO HYES
      go_wp2_with fail
      refine (HYE.out w1).mono ?_
      rintro e w2 ⟨rfl, hb2⟩
      have HB2 := Lib.hid (HB1.out.trans (hb2.mono HB1.out.size))
      clear hb2 HB1 HYE
      obtain ⟨Y, hY⟩ : ∃ Y, yearQ y = Y := ⟨_, rfl⟩
      have HY := Lib.hid hY
      have hY1 : -800000 ≤ Y ∧ Y ≤ 3000000 := by
        rw [← hY]
        have e1 := year_mono (a := 1) (b := y) (by omega)
        have e2 := year_mono (a := (y : Int)) (b := 10000) (by omega)
        have z1 : yearQ 1 = -719162 := by decide
        have z2 : yearQ 10000 = 2932897 := by decide
        omega
      rw [hY]
      clear hY
      go_wp2
      go_loopw [7, 8] (fun a i wr => ∃ k : Nat, 1 ≤ k ∧ k ≤ m ∧ i = .int .i64 (k : Int) ∧ a = .int .i64 (Y + (d : Int) - 1 + (cumQ y k : Nat)) ∧ Hid (Below w.heap.size w wr)) (fun _ i _ => m - (intOf i).toNat)
      case atStart => exact ⟨1, Nat.le_refl _, a3, rfl, by rw [show (cumQ y 1 : Int) = 0 from rfl, Int.add_zero], HB2⟩
      case round =>
        obtain ⟨k, hk1, hk, rfl, rfl, HR⟩ := hrel
        by_cases hlt : k < m
        · have hk2 : (k : Int) < (m : Int) := by omega
          have HST := Lib.hid (cum_step y k hk1)
          have hcb := cum_le y k hk1 (by omega)
          have hl1 : oneL y ≤ 1 := by unfold oneL; split <;> omega
          have hmo := mon_le y k
          obtain ⟨C, hC⟩ : ∃ C, cumQ y k = C := ⟨_, rfl⟩
          rw [hC] at HST hcb ⊢
          go_wp2_with fail
          refine (HMO.out _ k hk1 (by omega)).mono ?_
          rintro e w3 ⟨rfl, hb3⟩
          have HB3 := Lib.hid (HR.out.trans (hb3.mono HR.out.size))
          clear hb3
          obtain ⟨L, hL⟩ : ∃ L, monQ y k = L := ⟨_, rfl⟩
          rw [hL] at HST hcb hmo ⊢
          clear hL hC
          go_wp2
          go_roundw
          case rel => exact ⟨k + 1, by omega, by omega, by go_num, by rw [HST.out]; go_num, HB3⟩
          case measure => simp [intOf] <;> omega
        · obtain rfl : m = k := by omega
          go_wp2
          go_ret
          rw [HV.out, HDY.out, HY.out]
          refine ⟨?_, HR.out⟩
          go_num
    · have HV := Lib.hid (HNO.out fun h => h6 h.2.2.2.2.2)
      have g6 : decide (monQ y m < d) = true := decide_eq_true (by omega)
      go_wp2
      go_ret
      rw [HV.out]
      exact ⟨rfl, HB1.out⟩
  · have HV := Lib.hid (HNO.out fun h => h1 ⟨h.1, h.2.1, h.2.2.1, h.2.2.2.1, h.2.2.2.2.1⟩)
    clear HNO HYES
    by_cases a1 : 1 ≤ y
    · have g1 : decide ((y : Int) < 1) = false := decide_eq_false (by omega)
      by_cases a2 : y ≤ 9999
      · have g2 : decide ((9999 : Int) < (y : Int)) = false := decide_eq_false (by omega)
        by_cases a3 : 1 ≤ m
        · have g3 : decide ((m : Int) < 1) = false := decide_eq_false (by omega)
          by_cases a4 : m ≤ 12
          · have g4 : decide ((12 : Int) < (m : Int)) = false := decide_eq_false (by omega)
            have g5 : decide ((d : Int) < 1) = true := decide_eq_true (by omega)
            go_wp2
            go_ret
            rw [HV.out]
            exact ⟨rfl, Below.refl _ _⟩
          · have g4 : decide ((12 : Int) < (m : Int)) = true := decide_eq_true (by omega)
            go_wp2
            go_ret
            rw [HV.out]
            exact ⟨rfl, Below.refl _ _⟩
        · have g3 : decide ((m : Int) < 1) = true := decide_eq_true (by omega)
          go_wp2
          go_ret
          rw [HV.out]
          exact ⟨rfl, Below.refl _ _⟩
      · have g2 : decide ((9999 : Int) < (y : Int)) = true := decide_eq_true (by omega)
        go_wp2
        go_ret
        rw [HV.out]
        exact ⟨rfl, Below.refl _ _⟩
    · have g1 : decide ((y : Int) < 1) = true := decide_eq_true (by omega)
      go_wp2
      go_ret
      rw [HV.out]
      exact ⟨rfl, Below.refl _ _⟩
end Go.Proofs.YtomcdhmcjndioaaGreatDoor
end
section
namespace Go.Proofs.YtomcdhmcjndioaaGreatDoor
open Go.RowKit
set_option linter.unusedVariables false

theorem cum_mono (y : Nat) {j k : Nat} (h1 : 1 ≤ j) (h : j < k) : cumQ y j + monQ y j ≤ cumQ y k := by
  induction k with
  | zero => omega
  | succ k ih =>
    rcases (show j = k ∨ j < k by omega) with e | e
    · subst e; rw [cum_step y j h1]; omega
    · have := ih e; rw [cum_step y k (by omega)]; omega
theorem year_cmp {y m d : Nat} (h : dateB y m d = true) (a : Nat) : yearQ a ≤ dayQ y m d ↔ a ≤ y := by
  have hin := day_in h
  constructor
  · intro h1
    rcases (show a ≤ y ∨ y + 1 ≤ a by omega) with h2 | h2
    · exact h2
    · have := year_mono (a := (y : Int) + 1) (b := a) (by omega); omega
  · intro h1
    have := year_mono (a := a) (b := y) (by omega); omega
theorem half_pow (i : Nat) : 2 ^ (i + 1) / 2 = 2 ^ i := by rw [Nat.pow_succ]; omega
def CivPost (w : World) (y m d : Nat) (e : Ending) (w' : World) : Prop := e = .returned (.tuple #[.int .i64 (y : Int), .int .i64 (m : Int), .int .i64 (d : Int)]) ∧ Below w.heap.size w w'
set_option maxRecDepth 100000 in
set_option maxHeartbeats 4000000 in
theorem rcivil_any (y m d : Nat) (h : dateB y m d = true) (w : World) : Calls Tryz.prog 134 #[.int .i64 (dayQ y m d)] w (CivPost w y m d) := by
  unfold CivPost
  have hin := day_in h
  have HCM := Lib.hid (fun (a b : Nat) => show yearQ ((a : Int) + (b : Int)) ≤ dayQ y m d ↔ a + b ≤ y by have h := year_cmp h (a + b); rw [Int.natCast_add] at h; exact h)
  have HDY := Lib.hid (day_year y m d)
  unfold dateB at h
  simp only [Bool.and_eq_true, decide_eq_true_eq] at h
  obtain ⟨⟨⟨⟨⟨a1, a2⟩, a3⟩, a4⟩, a5⟩, a6⟩ := h
  have HMO := Lib.hid (fun W k (h1 : 1 ≤ k) (h2 : k ≤ 12) => rmonth_any y k a1 (by omega) h1 h2 W)
  have HYE := Lib.hid (fun W (a b : Nat) (h1 : 1 ≤ a) (h2 : a + b ≤ 100000) => show Calls Tryz.prog 150 #[.int .i64 ((a : Int) + (b : Int))] W fun e w' => e = .returned (.int .i64 (yearQ ((a : Int) + (b : Int)))) ∧ Below W.heap.size W w' from by
    have h := ryear_any (a + b) (by omega) h2 W
    rw [Int.natCast_add] at h
    exact h)
  have HY0 := Lib.hid (fun W => ryear_any y (by omega) (by omega) W)
  have hin1 := hin.2.2.1
  have hin2 := hin.2.2.2
  clear hin
  obtain ⟨V, hV⟩ : ∃ V, dayQ y m d = V := ⟨_, rfl⟩
  rw [hV] at HCM HDY hin1 hin2 ⊢
  clear hV
  have g1 : decide (V < -719162) = false := decide_eq_false (by omega)
  have g2 : decide (2932896 < V) = false := decide_eq_false (by omega)
  go_enter Tryz.func134, Tryz.ntmps134
  go_wp2
  go_loopw [5, 6] (fun a i wr => ∃ z s j : Nat, 1 ≤ z ∧ z ≤ y ∧ j ≤ 14 ∧ s = 2 ^ j / 2 ∧ y < z + 2 ^ j ∧ a = .int .i64 (z : Int) ∧ i = .int .i64 (s : Int) ∧ Hid (Below w.heap.size w wr)) (fun _ i _ => (intOf i).toNat)
  case atStart => exact ⟨1, 8192, 14, Nat.le_refl _, a1, Nat.le_refl _, by decide, Nat.lt_of_le_of_lt a2 (by decide), rfl, rfl, Lib.hid (Below.refl _ _)⟩
  case round =>
    obtain ⟨z, s, j, hz1, hz2, hj, hs, hyz, rfl, rfl, HR⟩ := hrel
    cases j with
    | zero =>
      have hs0 : s = 0 := by rw [hs]
      have hyz2 : z = y := by have : (2 : Nat) ^ 0 = 1 := rfl; omega
      subst hs0
      clear hs hyz hj hz2
      obtain rfl : y = z := hyz2.symm
      clear HYE HCM hyz2
      go_wp2_with fail
      refine (HY0.out wr).mono ?_
      rintro e w2 ⟨rfl, hb2⟩
      have HB2 := Lib.hid (HR.out.trans (hb2.mono HR.out.size))
      clear hb2 HY0 HR
      obtain ⟨Y, hY⟩ : ∃ Y, yearQ y = Y := ⟨_, rfl⟩
      rw [hY] at HDY ⊢
      obtain ⟨CM, hCM⟩ : ∃ c, cumQ y m = c := ⟨_, rfl⟩
      have HCM := Lib.hid hCM
      have hcm := cum_le y m a3 a4
      have hl1 : oneL y ≤ 1 := by unfold oneL; split <;> omega
      have hmo := mon_le y m
      rw [hCM] at HDY hcm
      have HVY := Lib.hid (show V - Y = (CM : Int) + (d : Int) - 1 by have := HDY.out; omega)
      have hVY : -1000000 ≤ V - Y ∧ V - Y ≤ 1000000 := by rw [HVY.out]; omega
      clear hY hCM HDY
      go_wp2
      go_loopw [7, 8] (fun a i wr => ∃ (k C : Nat), 1 ≤ k ∧ k ≤ m ∧ C = cumQ y k ∧ a = .int .i64 ((CM : Int) + (d : Int) - 1 - (C : Int)) ∧ i = .int .i64 (k : Int) ∧ Hid (Below w.heap.size w wr)) (fun _ i _ => m - (intOf i).toNat)
      case atStart => exact ⟨1, 0, Nat.le_refl _, a3, rfl, by rw [← HVY.out]; go_num, rfl, HB2⟩
      case round =>
        obtain ⟨k, C, hk1, hk, hC, rfl, rfl, HR⟩ := hrel
        have HC := Lib.hid hC
        by_cases hlt : k < m
        · have hcu := cum_mono y hk1 hlt
          rw [HCM.out, ← hC] at hcu
          have hmk := mon_le y k
          have HST := Lib.hid (cum_step y k hk1)
          obtain ⟨L, hL⟩ : ∃ L, monQ y k = L := ⟨_, rfl⟩
          have HMK := Lib.hid (fun W => HMO.out W k hk1 (by omega))
          rw [hL] at hcu hmk HST HMK
          have g5 : decide ((L : Int) ≤ (CM : Int) + (d : Int) - 1 - (C : Int)) = true := decide_eq_true (by omega)
          clear hL hC
          go_wp2_with fail
          refine (HMK.out wr).mono ?_
          rintro e w3 ⟨rfl, hb3⟩
          have HB3 := Lib.hid (HR.out.trans (hb3.mono HR.out.size))
          clear hb3 HR
          go_wp2_with fail
          refine (HMK.out w3).mono ?_
          rintro e w4 ⟨rfl, hb4⟩
          have HB4 := Lib.hid (HB3.out.trans (hb4.mono HB3.out.size))
          clear hb4 HB3
          go_wp2
          go_roundw
          case rel => exact ⟨k + 1, C + L, by omega, by omega, by rw [HST.out, HC.out], by go_num, by go_num, HB4⟩
          case measure => simp [intOf] <;> omega
        · obtain rfl : m = k := by omega
          have hCC : C = CM := by rw [hC]; exact HCM.out
          have HMK := Lib.hid (fun W => HMO.out W m hk1 (by omega))
          obtain ⟨L, hL⟩ : ∃ L, monQ y m = L := ⟨_, rfl⟩
          rw [hL] at HMK a6 hcm hmo
          have g5 : decide ((L : Int) ≤ (CM : Int) + (d : Int) - 1 - (C : Int)) = false := decide_eq_false (by omega)
          have HEQ := Lib.hid (show (CM : Int) + (d : Int) - 1 - (C : Int) + 1 = (d : Int) by omega)
          have hCM2 : (C : Int) = (CM : Int) := by omega
          clear hL hC hCC
          go_wp2_with fail
          refine (HMK.out wr).mono ?_
          rintro e w3 ⟨rfl, hb3⟩
          have HB3 := Lib.hid (HR.out.trans (hb3.mono HR.out.size))
          clear hb3 HR
          go_wp2
          go_ret3
          refine ⟨?_, HB3.out⟩
          go_num
    | succ i =>
      rw [half_pow] at hs
      rw [Nat.pow_succ, ← hs] at hyz
      have hsp : 1 ≤ s := by rw [hs]; exact Nat.one_le_two_pow
      have hsm : s ≤ 8192 := by rw [hs]; exact Nat.pow_le_pow_right (by decide) (show i ≤ 13 by omega)
      have HNX := Lib.hid (show s / 2 = 2 ^ i / 2 by rw [hs])
      have HS := Lib.hid hs
      clear hs
      have g3 : decide ((0 : Int) < (s : Int)) = true := decide_eq_true (by omega)
      by_cases e1 : z + s ≤ 9999
      · have g4 : decide ((z : Int) + (s : Int) ≤ 9999) = true := decide_eq_true (by omega)
        have HC := Lib.hid (HCM.out z s)
        go_wp2_with fail
        refine (HYE.out wr z s hz1 (by omega)).mono ?_
        rintro e w2 ⟨rfl, hb2⟩
        have HB2 := Lib.hid (HR.out.trans (hb2.mono HR.out.size))
        clear hb2
        obtain ⟨t, ht⟩ : ∃ t, yearQ ((z : Int) + (s : Int)) = t := ⟨_, rfl⟩
        rw [ht] at HC ⊢
        clear ht
        by_cases e2 : z + s ≤ y
        · have g5 : decide (t ≤ V) = true := decide_eq_true (HC.out.2 e2)
          go_wp2
          go_roundw
          case rel => exact ⟨z + s, s / 2, i, by omega, e2, by omega, HNX.out, by rw [← HS.out]; omega, by go_num, by go_num, HB2⟩
          case measure => simp [intOf] <;> omega
        · have g5 : decide (t ≤ V) = false := decide_eq_false (fun h => e2 (HC.out.1 h))
          go_wp2
          go_roundw
          case rel => exact ⟨z, s / 2, i, hz1, hz2, by omega, HNX.out, by rw [← HS.out]; omega, rfl, by go_num, HB2⟩
          case measure => simp [intOf] <;> omega
      · have g4 : decide ((z : Int) + (s : Int) ≤ 9999) = false := decide_eq_false (by omega)
        go_wp2
        go_roundw
        case rel => exact ⟨z, s / 2, i, hz1, hz2, by omega, HNX.out, by rw [← HS.out]; omega, rfl, by go_num, HR⟩
        case measure => simp [intOf] <;> omega
end Go.Proofs.YtomcdhmcjndioaaGreatDoor
end
section
namespace Go.Proofs.YtomcdhmcjndioaaGreatDoor
open Go.RowKit
set_option linter.unusedVariables false

set_option maxRecDepth 100000 in
set_option maxHeartbeats 4000000 in
theorem ddiv400_any (n : Nat) (h2 : n ≤ 1000000000) (w : World) : Calls Tryz.prog 110 #[.int .i64 (n : Int), .int .i64 400] w fun e w' => e = .returned (.tuple #[.int .i64 ((n : Int) / 400), .int .i64 ((n : Int) % 400)]) ∧ Below w.heap.size w w' := by
  have g1 : decide ((n : Int) % 400 < 0) = false := decide_eq_false (by omega)
  go_enter Tryz.func110, Tryz.ntmps110
  go_wp2
  go_quiet (fail)
  go_wp2
  go_ret2
  exact ⟨rfl, Go.below_drewN (Below.refl _ _) _⟩
set_option maxRecDepth 100000 in
set_option maxHeartbeats 4000000 in
theorem ddiv146097_any (n : Nat) (h2 : n ≤ 1000000000) (w : World) : Calls Tryz.prog 110 #[.int .i64 (n : Int), .int .i64 146097] w fun e w' => e = .returned (.tuple #[.int .i64 ((n : Int) / 146097), .int .i64 ((n : Int) % 146097)]) ∧ Below w.heap.size w w' := by
  have g1 : decide ((n : Int) % 146097 < 0) = false := decide_eq_false (by omega)
  go_enter Tryz.func110, Tryz.ntmps110
  go_wp2
  go_quiet (fail)
  go_wp2
  go_ret2
  exact ⟨rfl, Go.below_drewN (Below.refl _ _) _⟩
set_option maxRecDepth 100000 in
set_option maxHeartbeats 4000000 in
theorem dcount_any (y m d : Nat) (hy1 : 1 ≤ y) (hy : y ≤ 9999) (hm1 : 1 ≤ m) (hm : m ≤ 12) (hd1 : 1 ≤ d) (hd : d ≤ 31) (w : World) : Calls Tryz.prog 145 #[.int .i64 (y : Int), .int .i64 (m : Int), .int .i64 (d : Int)] w (DayPost w (cntP y m d)) := by
  unfold DayPost
  have HDV := Lib.hid (fun n (h : n ≤ 1000000000) W => ddiv400_any n h W)
  by_cases e1 : m < 3
  · obtain ⟨z, hz⟩ : ∃ z, y = z + 1 := ⟨y - 1, by omega⟩
    have HV := Lib.hid (show cntP y m d = (z : Int) / 400 * 146097 + (z : Int) % 400 * 365 + (z : Int) % 400 / 4 - (z : Int) % 400 / 100 + ((153 * (((m : Int) + 9) % 12) + 2) / 5 + (d : Int) - 1) - 719468 by
      unfold cntP
      dsimp only
      rw [if_pos (by omega), show (y : Int) - 1 = z by omega])
    have g1 : decide ((m : Int) < 3) = true := decide_eq_true (by omega)
    have hyz : (y : Int) - 1 = (z : Int) := by omega
    have hz0 : z ≤ 9998 := by omega
    clear hz e1
    go_enter Tryz.func145, Tryz.ntmps145
    go_wp2_with fail
    refine (HDV.out z (by omega) w).mono ?_
    rintro e w1 ⟨rfl, hb1⟩
    have HB1 := Lib.hid hb1
    clear hb1 HDV
    go_wp2
    go_ret
    rw [HV.out]
    refine ⟨?_, HB1.out⟩
    go_num
  · have HV := Lib.hid (show cntP y m d = (y : Int) / 400 * 146097 + (y : Int) % 400 * 365 + (y : Int) % 400 / 4 - (y : Int) % 400 / 100 + ((153 * (((m : Int) + 9) % 12) + 2) / 5 + (d : Int) - 1) - 719468 by
      unfold cntP
      dsimp only
      rw [if_neg (by omega)])
    have g1 : decide ((m : Int) < 3) = false := decide_eq_false (by omega)
    clear e1
    go_enter Tryz.func145, Tryz.ntmps145
    go_wp2_with fail
    refine (HDV.out y (by omega) w).mono ?_
    rintro e w1 ⟨rfl, hb1⟩
    have HB1 := Lib.hid hb1
    clear hb1 HDV
    go_wp2
    go_ret
    rw [HV.out]
    refine ⟨?_, HB1.out⟩
    go_num
end Go.Proofs.YtomcdhmcjndioaaGreatDoor
end
section
namespace Go.Proofs.YtomcdhmcjndioaaGreatDoor
open Go.RowKit
set_option linter.unusedVariables false

theorem info_u8 : (Tryz.prog.info? 5).map (fun i => (i.zero, i.size, i.bytes)) = some (some (.int .u8 0), 1, 1) := by kernel_rfl
/-- v owns the bytes l, in memory from B on. -/
def OwnBytes (w : World) (B : Nat) (v : Value) (l : List UInt8) : Prop := w.ownsRow B 5 1 v l.length (Lib.byteCells l)
theorem OwnBytes.nil_ (w : World) (B : Nat) : OwnBytes w B (.slice none 0 0) [] := World.ownsRow_nil _ _ _ _
theorem OwnBytes.block {w w' : World} {B : Nat} {v : Value} {l : List UInt8} (h : OwnBytes w B v l) (hb : ∀ b, v.ownBlock = some b → w'.heap[b]? = w.heap[b]?) : OwnBytes w' B v l := ownsRow_block h hb
theorem wpList_pushByte {ops : Array Oper} {rest : List Oper} {o : Oper} {a : Act} {W : World} {Q : Exit → Act → World → Prop} {B : Nat} {y : UInt8} {u : Int} {v : Value} {l : List UInt8} (hown : OwnBytes W B v l) (hB : B ≤ W.heap.size)
    (hu : u = (y.toNat : Int)) (hlen : l.length < 1099511627776) (hgd : o.guard = none) (s x : Operand) (c : Nat)
    (ho : o.op = .call { callee := .builtin .append, args := #[s, x], argTypes := #[93, 93] })
    (hs : a.eval s = v) (hx : a.eval x = .slice (some ⟨W.heap.size, 0, none⟩) 1 c)
    (h : ∀ v' w', OwnBytes w' B v' (l ++ [y]) → W.grownBy w' v.ownBlock → (v'.ownBlock = v.ownBlock ∨ ∃ k, v'.ownBlock = some k ∧ W.heap.size ≤ k) → wpList Tryz.prog ops Q rest (a.put o.dst v') w') :
    wpList Tryz.prog ops Q (o :: rest) a (W.alloc (.cells #[.int .u8 u] 5)) := by
  obtain ⟨i0, hi, hz0, hz1, hz2⟩ := info_parts info_u8
  subst hu
  have hl : (Lib.byteCells l).length = l.length := Lib.byteCells_length l
  refine wpList_append_own_at _ hgd s x 93 ho B 5 i0 _ 1 1 Tryz.underlying93 hi hz0 hz1 hz2 rfl (by omega) v l.length (Lib.byteCells l) hs (World.ownsRow.alloc hown _) ⟨W.heap.size, 0, none⟩ 1 c [.int .u8 y.toNat] hx rfl (cell_one_new _ _ _) ?_ (by simp only [maxLen]; omega) (by omega) (by simp; omega) ?_
  · intro u hu; simp at hu; subst hu; rfl
  · intro v' w' h1 h2 _ h4
    refine h v' w' ?_ ?_ ?_
    · unfold OwnBytes
      rw [Lib.byteCells_append, List.length_append]
      exact h1
    · have h5 := World.grownBy_alloc W (.cells #[.int .u8 y.toNat] 5) v.ownBlock
      exact ⟨h2.os.trans h5.os, h2.tape.trans h5.tape, h2.output.trans h5.output, Nat.le_trans h5.size h2.size, fun k hk hne => (h2.block k (by simp; omega) hne).trans (h5.block k hk hne)⟩
    · rcases h4 with h4 | h4
      · exact .inl h4
      · exact .inr ⟨_, h4, by simp⟩
/-- 'string(b)'. -/
theorem OwnBytes.str {w : World} {B : Nat} {v : Value} {l : List UInt8} (h : OwnBytes w B v l) : (convert 93 9 v).run Tryz.prog w = .ok (.string (ba l)) w := by
  rcases h.2 with ⟨rfl, h0⟩ | ⟨g, cap, cur, rfl, _⟩
  · have : l = [] := List.eq_nil_of_length_eq_zero h0
    subst this
    exact run_convert_bytes_nil (P := Tryz.prog) (w := w) 93 5 Tryz.underlying93 Tryz.underlying5 0 0 9 Tryz.underlying9
  · exact run_convert_bytes_back w 93 9 5 ⟨g, 0, none⟩ cap l Tryz.underlying93 Tryz.underlying5 Tryz.underlying9 fun j hj => h.cells (g := g) rfl j _ (by simp [Lib.byteCells, hj])
end Go.Proofs.YtomcdhmcjndioaaGreatDoor
end
section
namespace Go.Proofs.YtomcdhmcjndioaaGreatDoor
open Go.RowKit
set_option linter.unusedVariables false

theorem u8_int_eq' {c d : UInt8} : (c.toNat : Int) = (d.toNat : Int) ↔ c = d := ⟨fun h => UInt8.toNat_inj.1 (by omega), fun h => by rw [h]⟩
theorem u8i (c : UInt8) : 0 ≤ (c.toNat : Int) ∧ (c.toNat : Int) ≤ 255 := by have := c.toNat_lt; omega
theorem OwnBytes.shape {w : World} {B : Nat} {v : Value} {l : List UInt8} (h : OwnBytes w B v l) : ∃ A c, v = .slice A l.length c := by
  rcases h.2 with ⟨rfl, h0⟩ | ⟨g, cap, cur, rfl, hb, hg, q1, q2, q3⟩
  · exact ⟨none, 0, by rw [h0]⟩
  · exact ⟨_, cap, rfl⟩
def RSmRel (w : World) (l : List UInt8) (k : Nat) (v : Value) (wr : World) : Prop := OwnBytes wr w.heap.size v (smallP (l.take k)) ∧ Below w.heap.size w wr
theorem smallP_snoc {l : List UInt8} {k : Nat} (hk : k < l.length) : smallP (l.take (k + 1)) = smallP (l.take k) ++ [smallB l[k]] := by
  rw [List.take_succ_eq_append_getElem hk]
  unfold smallP
  rw [List.map_append]
  rfl
set_option maxRecDepth 100000 in
set_option maxHeartbeats 4000000 in
theorem rqsmall_any (l : List UInt8) (w : World) (hl : l.length ≤ 1000000000) :
    Calls Tryz.prog 51 #[.string (ba l)] w (StrB w (smallP l)) := by
  obtain ⟨n, hn⟩ : ∃ n, l.length = n := ⟨_, rfl⟩
  have HL := Lib.hid hn
  obtain ⟨s, hs⟩ : ∃ s, ba l = s := ⟨_, rfl⟩
  have HS := Lib.hid hs
  have HZ := Lib.hid (show s.size = n by rw [← hs, ba_size, hn])
  have hsz : (s.size : Int) = n := by rw [HZ.out]
  rw [hs]
  rw [hn] at hl
  clear hs hn
  go_enter Tryz.func51, Tryz.ntmps51
  go_wp2
  go_loopw [3, 4, 5] (fun v i c wr => ∃ (k : Nat) (x : Value), c = x ∧ k ≤ n ∧ i = .int .i64 (k : Int) ∧ Hid (RSmRel w l k v wr)) (fun _ i _ _ => n - (intOf i).toNat)
  case atStart => exact ⟨0, _, rfl, Nat.zero_le _, rfl, OwnBytes.nil_ _ _, Below.refl _ _⟩
  case round =>
    obtain ⟨k, xc, rfl, hk, rfl, HR⟩ := hrel
    have hB := HR.out.2.size
    by_cases hlt : k < n
    · have hk2 : (k : Int) < (n : Int) := by omega
      have hk0 : (0 : Int) ≤ (k : Int) := by omega
      have hks : k < s.size := by rw [HZ.out]; omega
      have hkl : k < l.length := by rw [HL.out]; omega
      have hget : s[k] = l[k] := by
        have h := HS.out
        subst h
        rfl
      have HT := Lib.hid (smallP_snoc hkl)
      have HAL := Lib.hid (show (smallP (l.take k)).length < 1099511627776 by rw [smallP_len, List.length_take]; omega)
      obtain ⟨c, hc⟩ : ∃ c, l[k] = c := ⟨_, rfl⟩
      rw [hc] at hget HT
      obtain ⟨x, hx⟩ : ∃ x : Int, (c.toNat : Int) = x := ⟨_, rfl⟩
      have hgi : ((s[k]).toNat : Int) = x := by rw [hget]; exact hx
      have HX := Lib.hid hx
      have hx0 : 0 ≤ x := by omega
      have hx1 : x ≤ 255 := by have := c.toNat_lt; omega
      clear hc hkl hget hx
      have HY := Lib.hid (smallB_yes (c := c))
      have HNO := Lib.hid (smallB_no (c := c))
      have HOWN := Lib.hid HR.out.1
      have HBEL := Lib.hid HR.out.2
      clear HR
      by_cases e1 : 65 ≤ x ∧ x ≤ 90
      · have g1 : decide (65 ≤ x) = true := decide_eq_true e1.1
        have g2 : decide (x ≤ 90) = true := decide_eq_true e1.2
        have hx2 : x ≤ 90 := e1.2
        have HYB := Lib.hid (show x + 32 = ((smallB c).toNat : Int) by rw [HY.out (by rw [HX.out]; exact e1)]; have := HX.out; have := c.toNat_lt; simp; omega)
        clear e1
        go_wp2_with (at_builtin; go_must (refine wpList_pushByte (y := smallB c) HOWN.out hB HYB.out HAL.out rfl (.tmp 23) (.tmp 25) 1 rfl rfl rfl ?_); intro v2 w2 h1 h2 h3; (have H1 := Lib.hid h1; have H2 := Lib.hid h2; clear h1 h2 h3))
        go_roundw
        case rel =>
          refine ⟨k + 1, _, rfl, by omega, by go_num, ?_, HBEL.out.grown H2.out hB fun g e => (World.ownsRow.lt HOWN.out g e).1⟩
          rw [HT.out]
          exact H1.out
        case measure => simp [intOf] <;> omega
      · have HYB := Lib.hid (show x = ((smallB c).toNat : Int) by rw [HNO.out (by rw [HX.out]; exact e1)]; exact HX.out.symm)
        by_cases e2 : 65 ≤ x
        · have g1 : decide (65 ≤ x) = true := decide_eq_true e2
          have g2 : decide (x ≤ 90) = false := decide_eq_false fun h => e1 ⟨e2, h⟩
          clear e1 e2
          go_wp2_with (at_builtin; go_must (refine wpList_pushByte (y := smallB c) HOWN.out hB HYB.out HAL.out rfl (.tmp 23) (.tmp 25) 1 rfl rfl rfl ?_); intro v2 w2 h1 h2 h3; (have H1 := Lib.hid h1; have H2 := Lib.hid h2; clear h1 h2 h3))
          go_roundw
          case rel =>
            refine ⟨k + 1, _, rfl, by omega, by go_num, ?_, HBEL.out.grown H2.out hB fun g e => (World.ownsRow.lt HOWN.out g e).1⟩
            rw [HT.out]
            exact H1.out
          case measure => simp [intOf] <;> omega
        · have g1 : decide (65 ≤ x) = false := decide_eq_false e2
          clear e1 e2
          go_wp2_with (at_builtin; go_must (refine wpList_pushByte (y := smallB c) HOWN.out hB HYB.out HAL.out rfl (.tmp 23) (.tmp 25) 1 rfl rfl rfl ?_); intro v2 w2 h1 h2 h3; (have H1 := Lib.hid h1; have H2 := Lib.hid h2; clear h1 h2 h3))
          go_roundw
          case rel =>
            refine ⟨k + 1, _, rfl, by omega, by go_num, ?_, HBEL.out.grown H2.out hB fun g e => (World.ownsRow.lt HOWN.out g e).1⟩
            rw [HT.out]
            exact H1.out
          case measure => simp [intOf] <;> omega
    · obtain rfl : k = n := by omega
      have hown : OwnBytes wr w.heap.size u3 (smallP l) := by
        have := HR.out.1
        rw [List.take_of_length_le (by rw [HL.out]; exact Nat.le_refl _)] at this
        exact this
      have hconv := hown.str
      clear hown
      go_wp2
      go_ret
      exact ⟨rfl, HR.out.2⟩
end Go.Proofs.YtomcdhmcjndioaaGreatDoor
end
