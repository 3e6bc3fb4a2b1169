/- Layer 12: the contracts of Disposition and Param. Layer 12: the contracts of Line and Write. Reference 12: the contract of within. append of two bytes, and of a string, onto a row of bytes of the call's own. Reference 12: the contracts of Params and Same. Reference 1: the contracts of Digit and Unhex. Reference 1: the contract of Text. -/
import Derived.Lib.AppendStr
import Derived.Test.YtnpgnohlcphfnaaGreatDoorM14
import Derived.Test.YtnpgnohlcphfnaaGreatDoorM11
import Derived.Test.YtnpgnohlcphfnaaGreatDoorM10
import Derived.Test.YtnpgnohlcphfnaaGreatDoorM03
import Derived.Test.YtnpgnohlcphfnaaGreatDoorM05
import Derived.Test.YtnpgnohlcphfnaaGreatDoorM01
section
namespace Go.Proofs.YtnpgnohlcphfnaaGreatDoor
open Go.RowKit
set_option linter.unusedVariables false

theorem frontP_le (l : List UInt8) : (frontP l).2 ≤ l.length := by
  cases l with
  | nil => exact Nat.le_refl _
  | cons c r => exact (frontP_len (by simp)).2
theorem joinP_cons (t : Tok) (l : List Tok) : (joinP (t :: l)).length = t.text.length + (joinP l).length := by unfold joinP; rw [List.flatMap_cons, List.length_append]
theorem scanF_join : ∀ (f : Nat) (l : List UInt8), (joinP (scanF f l)).length ≤ l.length
  | 0, l => by simp [scanF, joinP]
  | f + 1, l => by
    unfold scanF
    split
    · simp [joinP]
    · have h1 := scanF_join f (l.drop (frontP l).2)
      have h2 := frontP_le l
      rw [joinP_cons]
      show (l.take (frontP l).2).length + _ ≤ _
      rw [List.length_take]
      rw [List.length_drop] at h1
      omega
theorem bareP_join (ts : List Tok) : (joinP (bareP ts)).length ≤ (joinP ts).length := by
  unfold bareP
  induction ts with
  | nil => exact Nat.le_refl _
  | cons t r ih =>
    rw [List.filter_cons]
    split
    · rw [joinP_cons, joinP_cons]; omega
    · rw [joinP_cons]; omega
theorem rowsP_join : ∀ (l : List Tok) (r : List Tok), r ∈ rowsP l → (joinP r).length ≤ (joinP l).length
  | [], r, h => by
    have : r = [] := by simpa [rowsP] using h
    subst this
    exact Nat.le_refl _
  | t :: l, r, h => by
    unfold rowsP at h
    rw [joinP_cons]
    split at h
    · rcases List.mem_cons.1 h with rfl | h
      · simp [joinP]
      · have := rowsP_join l r h
        omega
    · split at h
      · rename_i hr
        exact absurd hr (rowsP_ne l)
      · rename_i a b hr
        rcases List.mem_cons.1 h with rfl | h
        · have := rowsP_join l a (by rw [hr]; exact List.mem_cons_self ..)
          rw [joinP_cons]; omega
        · have := rowsP_join l r (by rw [hr]; exact List.mem_cons_of_mem _ h)
          omega
theorem tokRows_ok (l : List UInt8) : (∀ r ∈ tokRows l, (joinP r).length ≤ l.length ∧ r.length ≤ l.length) ∧ (tokRows l).length ≤ l.length + 1 := by
  have h1 := scanP_len l
  have h2 := bareP_len (scanP l)
  have h3 : (joinP (scanP l)).length ≤ l.length := scanF_join _ l
  have h4 := bareP_join (scanP l)
  refine ⟨fun r hr => ?_, ?_⟩
  · have h5 := rowsP_join _ r hr
    have h6 := rowsP_row _ r hr
    omega
  · have := rowsP_len (bareP (scanP l))
    show (rowsP (bareP (scanP l))).length ≤ _
    omega
theorem rows_first (l : List UInt8) : ∃ r rs, tokRows l = r :: rs := by
  cases h : tokRows l with
  | nil => exact absurd h (rowsP_ne _)
  | cons r rs => exact ⟨r, rs, rfl⟩
theorem RowsIn.first {w : World} {B n : Nat} {A : Option Addr} {r : List Tok} {rs : List (List Tok)} (h : RowsIn w B A n (r :: rs)) : ∃ ad A' c', A = some ad ∧ ad.block < B ∧ w.cell? ad = some (.slice A' r.length c') ∧ r.length ≤ c' ∧ c' ≤ maxLen ∧ Toks w B A' r.length r := by
  obtain ⟨ad, A', c', h1, h2, h3, h4, h5, h6⟩ := h.at_ (k := 0) (by simp)
  have h7 : w.cell? (ad.add 0) = some (.slice A' r.length c') := h3
  have h8 : ad.add 0 = ad := by unfold Addr.add; rw [if_pos rfl]
  rw [h8] at h7
  exact ⟨ad, A', c', h1, h2, h7, h4, h5, h6⟩
theorem RowsIn.tail {w : World} {B n : Nat} {ad : Addr} {r : List Tok} {rs : List (List Tok)} (h : RowsIn w B (some ad) (n + 1) (r :: rs)) : RowsIn w B (some ⟨ad.block, ad.off + 1, none⟩) n rs := by
  obtain ⟨h1, xs, h2, h3, h4⟩ := h
  have hl : rs.length = n := by simpa using h1
  refine ⟨hl, xs.drop 1, by rw [List.length_drop, h2]; omega, ?_, fun i hi => ?_⟩
  · rcases h3 with h3 | ⟨a, e, hb, hc⟩
    · rw [h3] at h2; simp at h2
    · injection e with e
      subst e
      have h8 : (⟨ad.block, ad.off + 1, none⟩ : Addr) = ad.add 1 := by unfold Addr.add; rw [if_neg (by omega)]
      rw [h8]
      refine .inr ⟨_, rfl, by rw [add_block]; exact hb, fun j u hu => ?_⟩
      rw [add_add']
      exact hc _ u (by rw [← hu, List.getElem?_drop])
  · obtain ⟨A', c', e1, e2, e3, e4⟩ := h4 (i + 1) (by simp; omega)
    refine ⟨A', c', ?_, e2, e3, e4⟩
    rw [List.getElem?_drop, Nat.add_comm 1 i]
    exact e1
theorem RowsIn.one {w : World} {B n c : Nat} {ad ad' : Addr} {rs : List (List Tok)} (h : RowsIn w B (some ad') n rs) (hc : n + 1 ≤ c) : (c = 1 ∧ RowsIn w B (some ad) n rs) ∨ (c ≠ 1 ∧ RowsIn w B (some ad') n rs) := by
  by_cases e : c = 1
  · refine .inl ⟨e, ?_⟩
    have h0 : n = 0 := by omega
    subst h0
    have h1 : rs = [] := List.eq_nil_of_length_eq_zero h.len
    subst h1
    exact ⟨rfl, [], rfl, .inl rfl, fun i hi => absurd hi (by simp)⟩
  · exact .inr ⟨e, h⟩
def DispPost (w : World) (q : List UInt8 × List (List UInt8 × List UInt8)) (e : Ending) (w' : World) : Prop := ∃ v, e = .returned (.tuple #[.string (ba q.1), v]) ∧ OwnPars w' w.heap.size v q.2 ∧ Below w.heap.size w w'
theorem disp_fin {w w' : World} {q : List UInt8 × List (List UInt8 × List UInt8)} {f : List UInt8} {ps : List (List UInt8 × List UInt8)} {v : Value} {s : ByteArray} (h : q = (f, ps)) (hs : s = ba f) (ho : OwnPars w' w.heap.size v ps) (hb : Below w.heap.size w w') : DispPost w q (.returned (.tuple #[.string s, v])) w' := by
  subst h; subst hs
  exact ⟨v, rfl, ho, hb⟩
set_option maxRecDepth 100000 in
set_option maxHeartbeats 4000000 in
theorem disp_any (l : List UInt8) (w : World) (hl : l.length ≤ 10000000) (hT : Tabs w) :
    Calls Tryz.prog 12 #[.string (ba l)] w (DispPost w (dispT l)) := by
  have HT := Lib.hid hT
  have HOK := Lib.hid (tokRows_ok l)
  have HRA := Lib.hid (rows_any l w (by omega))
  obtain ⟨r, rs, hrs⟩ := rows_first l
  have HD0 := Lib.hid (show ∀ f, smallP (joinP r) = f → dispT l = (if isWord f = true then f else [], paramsP rs) from fun f hf => by
    subst hf
    unfold dispT
    rw [hrs]
    rfl)
  rw [hrs] at HOK HRA
  unfold RowsPost at HRA
  have hrl := HOK.out.1 r (List.mem_cons_self ..)
  have hnl := HOK.out.2
  clear hT hrs
  go_enter Tryz.func12, Tryz.ntmps12
  go_wp2_with fail
  refine HRA.out.mono ?_
  rintro e w1 ⟨v1, xs, rfl, hra, hb1⟩
  obtain ⟨A1, c1, rfl, hc1, hc2, hin⟩ := hra.rows
  have HIN := Lib.hid hin
  have HB1 := Lib.hid hb1
  obtain ⟨ad, A2, c2, rfl, hbl, hcell, hc3, hc4, htk⟩ := hin.first
  have HTK := Lib.hid htk
  have HC34 := Lib.hid (And.intro hc3 hc4)
  have HC12 := Lib.hid (And.intro hc1 hc2)
  clear hra hb1 hin htk hc3 hc4
  have hl1 : (r :: rs).length = rs.length + 1 := rfl
  rw [hl1] at hc1 HIN hnl ⊢
  have HCUT := Lib.hid HIN.out.tail
  obtain ⟨m, hm⟩ : ∃ m, rs.length = m := ⟨_, rfl⟩
  rw [hm] at HCUT HIN hc1 hnl
  rw [hm]
  have HNL := Lib.hid hnl
  clear hl1 hm HC12
  go_wp2_with fail
  refine (tjoin_any r A2 r.length c2 w1 HTK.out (by omega) (by omega)).mono ?_
  rintro e w2 ⟨rfl, hb2⟩
  have HB2 := Lib.hid hb2
  clear hb2
  go_wp2_with fail
  refine (csmall_any (joinP r) w2 (by omega)).mono ?_
  rintro e w3 ⟨rfl, hb3⟩
  have HB3 := Lib.hid (show Below w1.heap.size w1 w3 from HB2.out.trans (hb3.mono HB2.out.size))
  clear hb3
  obtain ⟨f, hf⟩ : ∃ f, smallP (joinP r) = f := ⟨_, rfl⟩
  have hfl : f.length ≤ 1000000000 := by rw [← hf, smallP_len]; omega
  have HD := Lib.hid (HD0.out f hf)
  rw [hf]
  have HW := Lib.hid (word_any f w3 hfl)
  clear hf
  rcases HCUT.out.one (ad := ad) hc1 with ⟨hcc, hin9⟩ | ⟨hcc, hin9⟩
  · have HIN9 := Lib.hid hin9
    subst hcc
    have hm0 : m = 0 := by omega
    subst hm0
    clear hin9 hc1
    have HLI := Lib.hid (show ∀ W, Below w3.heap.size w3 W → _ from fun W hW => list_any rs (some ad) 0 0 W ((HIN9.out.below (HB3.out.trans (hW.mono HB3.out.size))).more (Nat.le_trans HB3.out.size hW.size)) (by have := HNL.out; omega) (fun r hr => by have := HOK.out.1 r (List.mem_cons_of_mem _ hr); omega) (HT.out.below (HB1.out.trans ((HB3.out.trans (hW.mono HB3.out.size)).mono HB1.out.size))))
    by_cases hw : isWord f = true
    · rw [hw] at HW
      rw [if_pos hw] at HD
      clear hw
      go_wp2_with fail
      refine HW.out.mono ?_
      rintro e w4 ⟨rfl, hw4⟩
      have hw5 := hw4.symm
      subst hw5
      clear hw4
      go_wp2_with fail
      refine (HLI.out w3 (Below.refl _ _)).mono ?_
      rintro e w5 ⟨v5, rfl, ho5, hb5⟩
      have HO5 := Lib.hid (ho5.more (Nat.le_trans HB1.out.size HB3.out.size))
      have HB5 := Lib.hid (HB1.out.trans ((HB3.out.trans (hb5.mono HB3.out.size)).mono HB1.out.size))
      clear ho5 hb5
      go_wp2
      go_ret2
      exact disp_fin HD.out rfl HO5.out HB5.out
    · have hw2 : isWord f = false := by simpa using hw
      rw [hw2] at HW
      rw [if_neg hw] at HD
      clear hw hw2
      go_wp2_with fail
      refine HW.out.mono ?_
      rintro e w4 ⟨rfl, hw4⟩
      have hw5 := hw4.symm
      subst hw5
      clear hw4
      go_wp2_with fail
      refine (HLI.out w3 (Below.refl _ _)).mono ?_
      rintro e w5 ⟨v5, rfl, ho5, hb5⟩
      have HO5 := Lib.hid (ho5.more (Nat.le_trans HB1.out.size HB3.out.size))
      have HB5 := Lib.hid (HB1.out.trans ((HB3.out.trans (hb5.mono HB3.out.size)).mono HB1.out.size))
      clear ho5 hb5
      go_wp2
      go_ret2
      exact disp_fin HD.out rfl HO5.out HB5.out
  · have HIN9 := Lib.hid hin9
    clear hin9
    have HLI := Lib.hid (show ∀ W, Below w3.heap.size w3 W → _ from fun W hW => list_any rs (some ⟨ad.block, ad.off + 1, none⟩) m (c1 - 1) W ((HIN9.out.below (HB3.out.trans (hW.mono HB3.out.size))).more (Nat.le_trans HB3.out.size hW.size)) (by have := HNL.out; omega) (fun r hr => by have := HOK.out.1 r (List.mem_cons_of_mem _ hr); omega) (HT.out.below (HB1.out.trans ((HB3.out.trans (hW.mono HB3.out.size)).mono HB1.out.size))))
    by_cases hw : isWord f = true
    · rw [hw] at HW
      rw [if_pos hw] at HD
      clear hw
      go_wp2_with fail
      refine HW.out.mono ?_
      rintro e w4 ⟨rfl, hw4⟩
      have hw5 := hw4.symm
      subst hw5
      clear hw4
      go_wp2_with fail
      refine (HLI.out w3 (Below.refl _ _)).mono ?_
      rintro e w5 ⟨v5, rfl, ho5, hb5⟩
      have HO5 := Lib.hid (ho5.more (Nat.le_trans HB1.out.size HB3.out.size))
      have HB5 := Lib.hid (HB1.out.trans ((HB3.out.trans (hb5.mono HB3.out.size)).mono HB1.out.size))
      clear ho5 hb5
      go_wp2
      go_ret2
      exact disp_fin HD.out rfl HO5.out HB5.out
    · have hw2 : isWord f = false := by simpa using hw
      rw [hw2] at HW
      rw [if_neg hw] at HD
      clear hw hw2
      go_wp2_with fail
      refine HW.out.mono ?_
      rintro e w4 ⟨rfl, hw4⟩
      have hw5 := hw4.symm
      subst hw5
      clear hw4
      go_wp2_with fail
      refine (HLI.out w3 (Below.refl _ _)).mono ?_
      rintro e w5 ⟨v5, rfl, ho5, hb5⟩
      have HO5 := Lib.hid (ho5.more (Nat.le_trans HB1.out.size HB3.out.size))
      have HB5 := Lib.hid (HB1.out.trans ((HB3.out.trans (hb5.mono HB3.out.size)).mono HB1.out.size))
      clear ho5 hb5
      go_wp2
      go_ret2
      exact disp_fin HD.out rfl HO5.out HB5.out
def ParPost (w : World) (o : Option (List UInt8)) (e : Ending) (w' : World) : Prop := e = .returned (.tuple #[.string (ba (o.getD [])), .bool o.isSome]) ∧ Below w.heap.size w w'
theorem par_end {w w' : World} {o : Option (List UInt8)} {v : List UInt8} {s : ByteArray} (h : o = some v) (hs : s = ba v) (hb : Below w.heap.size w w') : ParPost w o (.returned (.tuple #[.string s, .bool true])) w' := by
  subst h; subst hs
  exact ⟨rfl, hb⟩
theorem par_end0 {w w' : World} {o : Option (List UInt8)} (h : o = none) (hb : Below w.heap.size w w') : ParPost w o (.returned (.tuple #[.string ⟨#[]⟩, .bool false])) w' := by
  subst h
  exact ⟨rfl, hb⟩
structure PmRel (w : World) (ps : List (List UInt8 × List UInt8)) (name : List UInt8) (k : Nat) (wr : World) : Prop where
  eq : paramT ps name = paramT (ps.drop k) name
  bel : Below w.heap.size w wr
set_option maxRecDepth 100000 in
set_option maxHeartbeats 1000000 in
theorem param_any (ps : List (List UInt8 × List UInt8)) (name : List UInt8) (A : Option Addr) (n c : Nat) (w : World) (hP : Pars w w.heap.size A n ps) (hn : n ≤ 1000000000) (hs : ∀ p ∈ ps, p.1.length ≤ 1000000000) (hl : name.length ≤ 1000000000) :
    Calls Tryz.prog 14 #[.slice A n c, .string (ba name)] w (ParPost w (paramT ps name)) := by
  have HP := Lib.hid hP
  have HS := Lib.hid hs
  have HN := Lib.hid hP.len
  clear hP hs
  go_enter Tryz.func14, Tryz.ntmps14
  go_wp2
  go_loopw [10] (fun i wr => ∃ k : Nat, k ≤ n ∧ i = .int .i64 (k : Int) ∧ Hid (PmRel w ps name k wr)) (fun i _ => n - (intOf i).toNat)
  case atStart => exact ⟨0, Nat.zero_le _, rfl, Lib.hid ⟨rfl, Below.refl _ _⟩⟩
  case round =>
    obtain ⟨k, hk, rfl, HR⟩ := hrel
    have hsz := HR.out.bel.size
    by_cases hlt : k < n
    · have hk2 : (k : Int) < n := by omega
      have hkl : k < ps.length := by rw [HN.out]; exact hlt
      obtain ⟨ad, rfl, hbl, c0, c1, -⟩ := (HP.out.below HR.out.bel).2 k hkl
      have hpl := HS.out _ (List.getElem_mem hkl)
      have heq := HR.out.eq
      rw [List.drop_eq_getElem_cons hkl] at heq
      have HBE := Lib.hid HR.out.bel
      obtain ⟨p, hp⟩ : ∃ p, ps[k] = p := ⟨_, rfl⟩
      rw [hp] at c0 c1 hpl heq
      obtain ⟨p1, p2⟩ := p
      have hpl1 : p1.length ≤ 1000000000 := hpl
      have d0 : wr.cell? (ad.add (k * 2)) = some (.string (ba p1)) := c0
      have d1 : wr.cell? ⟨(ad.add (k * 2)).block, (ad.add (k * 2)).off + 1, none⟩ = some (.string (ba p2)) := c1
      have HST := Lib.hid (show paramT ((p1, p2) :: ps.drop (k + 1)) name = if smallP p1 = smallP name then some p2 else paramT (ps.drop (k + 1)) name from by
        unfold paramT
        rw [List.find?_cons]
        by_cases h : smallP p1 = smallP name
        · rw [if_pos h, decide_eq_true h]; rfl
        · rw [if_neg h, decide_eq_false h])
      have HEQ := Lib.hid heq
      have HB1 := Lib.hid (HBE.out.alloc hsz (.cells #[.string (ba p1), .string (ba p2)] 37))
      have HSA := Lib.hid (fun W => csmall_any p1 W hpl1)
      have HSN := Lib.hid (fun W => csmall_any name W hl)
      unfold StrB at HSA HSN
      obtain ⟨a1, ha1⟩ : ∃ a, smallP p1 = a := ⟨_, rfl⟩
      obtain ⟨b1, hb1⟩ : ∃ a, smallP name = a := ⟨_, rfl⟩
      simp only [ha1] at HSA
      simp only [hb1] at HSN
      rw [ha1, hb1] at HST
      clear hp hpl hkl hbl c0 c1 heq hpl1 ha1 hb1 HR
      by_cases he : a1 = b1
      · subst he
        have HF := Lib.hid (show paramT ps name = some p2 by rw [HEQ.out, HST.out, if_pos rfl])
        go_wp2_with fail
        refine (HSA.out _).mono ?_
        rintro e w2 ⟨rfl, hb2⟩
        have e1 : w2.cell? ⟨wr.heap.size, 1, none⟩ = some (.string (ba p2)) := (hb2.cell (p := ⟨wr.heap.size, 1, none⟩) (by simp)).trans (by go_simp)
        have HB2 := Lib.hid (HB1.out.trans (hb2.mono HB1.out.size))
        have hz2 : wr.heap.size < w2.heap.size := by have := hb2.size; simp at this; omega
        clear hb2
        go_wp2_with fail
        refine (HSN.out _).mono ?_
        rintro e w3 ⟨rfl, hb3⟩
        have e2 : w3.cell? ⟨wr.heap.size, 1, none⟩ = some (.string (ba p2)) := (hb3.cell (p := ⟨wr.heap.size, 1, none⟩) (by show wr.heap.size < _; omega)).trans e1
        have HB3 := Lib.hid (HB2.out.trans (hb3.mono HB2.out.size))
        clear hb3
        go_wp2
        go_ret2
        exact par_end HF.out rfl HB3.out
      · have g2 : ((ba a1).toList == (ba b1).toList) = false := by rw [ba_toList, ba_toList]; simpa using he
        have g3 : ¬ (ba a1).toList = (ba b1).toList := by rw [ba_toList, ba_toList]; exact he
        have g4 : ¬ ba a1 = ba b1 := fun h => he (ba_inj.1 h)
        have HF := Lib.hid (show paramT ps name = paramT (ps.drop (k + 1)) name by rw [HEQ.out, HST.out, if_neg he])
        clear he
        go_wp2_with fail
        refine (HSA.out _).mono ?_
        rintro e w2 ⟨rfl, hb2⟩
        have HB2 := Lib.hid (HB1.out.trans (hb2.mono HB1.out.size))
        clear hb2
        go_wp2_with fail
        refine (HSN.out _).mono ?_
        rintro e w3 ⟨rfl, hb3⟩
        have HB3 := Lib.hid (HB2.out.trans (hb3.mono HB2.out.size))
        clear hb3
        go_wp2
        go_roundw
        case rel => exact ⟨k + 1, by omega, by go_num, Lib.hid ⟨HF.out, HB3.out⟩⟩
        case measure => simp [intOf] <;> omega
    · obtain rfl : k = n := by omega
      have HF := Lib.hid (show paramT ps name = none by
        rw [HR.out.eq, List.drop_of_length_le (by rw [HN.out]; exact Nat.le_refl _)]
        rfl)
      have HB := Lib.hid HR.out.bel
      clear HR
      go_wp2
      go_ret2
      exact par_end0 HF.out HB.out
end Go.Proofs.YtnpgnohlcphfnaaGreatDoor
end
section
namespace Go.Proofs.YtnpgnohlcphfnaaGreatDoor
open Go.RowKit
set_option linter.unusedVariables false

theorem lineP_snoc {first : List UInt8} {ps : List (List UInt8 × List UInt8)} {k : Nat} (hk : k < ps.length) : lineP first (ps.take (k + 1)) = lineP first (ps.take k) ++ ([59, 32] ++ ps[k].1 ++ fmtV ps[k].2) := by
  unfold lineP
  rw [List.take_succ_eq_append_getElem hk, List.flatMap_append, List.append_assoc]
  congr 2
  exact List.append_nil _
theorem lineP_take (first : List UInt8) (ps : List (List UInt8 × List UInt8)) (k : Nat) : (lineP first (ps.take k)).length ≤ (lineP first ps).length := by
  unfold lineP
  conv => rhs; rw [← List.take_append_drop k ps, List.flatMap_append, ← List.append_assoc, List.length_append]
  omega
/-- The state of Line's loop. -/
structure LiRel (w : World) (first : List UInt8) (ps : List (List UInt8 × List UInt8)) (k : Nat) (acc : List UInt8) (wr : World) : Prop where
  eq : acc = lineP first (ps.take k)
  bel : Below w.heap.size w wr
theorem line_bel {w wr w9 : World} {o : Obj} (h : Below w.heap.size w wr) (hb : Below (wr.alloc o).drew.heap.size (wr.alloc o).drew w9) : Below w.heap.size w w9 :=
  ((h.alloc h.size o).drew).trans (hb.mono (by have := h.size; simp; omega))
set_option maxRecDepth 100000 in
set_option maxHeartbeats 1000000 in
theorem line_any (first : List UInt8) (ps : List (List UInt8 × List UInt8)) (A : Option Addr) (n c : Nat) (w : World) (hP : Pars w w.heap.size A n ps) (hv : ∀ p ∈ ps, p.2.length ≤ 100000000) (hn : n ≤ 1000000000) (hL : (lineP first ps).length ≤ 9007199254740992) :
    Calls Tryz.prog 20 #[.string (ba first), .slice A n c] w (StrB w (lineP first ps)) := by
  have HP := Lib.hid hP
  have HS := Lib.hid hv
  have HN := Lib.hid hP.len
  have HTK := Lib.hid (fun k => Nat.le_trans (lineP_take first ps k) hL)
  clear hP hv hL
  go_enter Tryz.func20, Tryz.ntmps20
  go_wp2
  go_loopw [0, 9] (fun s i wr => ∃ (k : Nat) (acc : List UInt8), k ≤ n ∧ s = .string (ba acc) ∧ i = .int .i64 (k : Int) ∧ Hid (LiRel w first ps k acc wr)) (fun _ i _ => n - (intOf i).toNat)
  case atStart => exact ⟨0, first, Nat.zero_le _, rfl, rfl, Lib.hid ⟨by unfold lineP; simp, Below.refl _ _⟩⟩
  case round =>
    obtain ⟨k, acc, hk, rfl, rfl, HR⟩ := hrel
    have hsz := HR.out.bel.size
    by_cases hlt : k < n
    · have hk2 : (k : Int) < n := by omega
      have hkl : k < ps.length := by rw [HN.out]; exact hlt
      obtain ⟨ad, rfl, hbl, c0, c1, -⟩ := (HP.out.below HR.out.bel).2 k hkl
      have hpl := HS.out _ (List.getElem_mem hkl)
      have hsn := lineP_snoc (first := first) hkl
      have htk := HTK.out (k + 1)
      have HBE := Lib.hid HR.out.bel
      have heq := HR.out.eq
      rw [← heq] at hsn
      obtain ⟨p, hp⟩ : ∃ p, ps[k] = p := ⟨_, rfl⟩
      rw [hp] at c0 c1 hpl hsn
      obtain ⟨p1, p2⟩ := p
      have hpl1 : p2.length ≤ 100000000 := hpl
      have d0 : wr.cell? (ad.add (k * 2)) = some (.string (ba p1)) := c0
      have d1 : wr.cell? ⟨(ad.add (k * 2)).block, (ad.add (k * 2)).off + 1, none⟩ = some (.string (ba p2)) := c1
      have HFM := Lib.hid (fun W => fmt_any p2 W hpl1)
      obtain ⟨f, hf⟩ : ∃ f, fmtV p2 = f := ⟨_, rfl⟩
      have hsn2 : lineP first (ps.take (k + 1)) = acc ++ ([59, 32] ++ p1 ++ f) := by rw [hsn, ← hf]
      unfold StrB at HFM
      simp only [hf] at HFM
      rw [hsn2] at htk
      have HSN := Lib.hid hsn2
      have hlen : acc.length + (2 + p1.length + f.length) ≤ 9007199254740992 := by
        rw [List.length_append, List.length_append, List.length_append] at htk
        exact htk
      have hap1 : (⟨#[59, 32]⟩ : ByteArray) ++ ba p1 = ba ([59, 32] ++ p1) := ba_append [59, 32] p1
      have hap2 := ba_append ([59, 32] ++ p1) f
      have hap3 := ba_append acc ([59, 32] ++ p1 ++ f)
      have hl1 : ¬ 9223372036854775807 < 2 + (ba p1).size := by rw [ba_size]; omega
      have hl2 : ¬ 9223372036854775807 < (ba ([59, 32] ++ p1)).size + (ba f).size := by rw [ba_size, ba_size, List.length_append]; show ¬ _ < 2 + _ + _; omega
      have hl3 : ¬ 9223372036854775807 < (ba acc).size + (ba ([59, 32] ++ p1 ++ f)).size := by rw [ba_size, ba_size, List.length_append, List.length_append]; show ¬ _ < _ + (2 + _ + _); omega
      obtain ⟨q1, hq1⟩ : ∃ q, [59, 32] ++ p1 = q := ⟨_, rfl⟩
      rw [hq1] at hap1 hap2 hap3 hl2 hl3 HSN
      obtain ⟨q2, hq2⟩ : ∃ q, q1 ++ f = q := ⟨_, rfl⟩
      rw [hq2] at hap2 hap3 hl3 HSN
      obtain ⟨q3, hq3⟩ : ∃ q, acc ++ q2 = q := ⟨_, rfl⟩
      rw [hq3] at hap3 HSN
      clear hp hpl hkl hbl c0 c1 heq hf hsn hsn2 htk hpl1 hq1 hq2 hq3 hlen HR
      go_wp2
      go_region_with
        (go_at_call 41; refine (HFM.out _).mono ?_; rintro e w9 ⟨rfl, hb9⟩; (
          have e0 : w9.cell? ⟨wr.heap.size, 0, none⟩ = some (.string (ba p1)) := (hb9.cell (p := ⟨wr.heap.size, 0, none⟩) (by simp)).trans (by go_simp)
          have e1 : w9.cell? ⟨wr.heap.size, 1, none⟩ = some (.string (ba p2)) := (hb9.cell (p := ⟨wr.heap.size, 1, none⟩) (by simp)).trans (by go_simp)
          have HB9 := Lib.hid (line_bel HBE.out hb9)
          clear hb9))
      all_goals
        go_wp2
        go_roundw
        case rel => exact ⟨k + 1, q3, by omega, rfl, by go_num, Lib.hid ⟨HSN.out.symm, HB9.out⟩⟩
        case measure => simp [intOf] <;> omega
    · obtain rfl : k = n := by omega
      have HF := Lib.hid (show acc = lineP first ps by
        have h := HR.out.eq
        rw [List.take_of_length_le (by rw [HN.out]; exact Nat.le_refl _)] at h
        exact h)
      have HBE := Lib.hid HR.out.bel
      clear HR
      go_wp2
      go_ret
      exact str_fin (congrArg ba HF.out) HBE.out
set_option maxRecDepth 100000 in
set_option maxHeartbeats 1000000 in
theorem write_any (kind sub : List UInt8) (ps : List (List UInt8 × List UInt8)) (A : Option Addr) (n c : Nat) (w : World) (hP : Pars w w.heap.size A n ps) (hv : ∀ p ∈ ps, p.2.length ≤ 100000000) (hn : n ≤ 1000000000) (hL : (lineP (kind ++ [47] ++ sub) ps).length ≤ 9007199254740992) :
    Calls Tryz.prog 18 #[.agg #[.string (ba kind), .string (ba sub), .slice A n c]] w (StrB w (lineP (kind ++ [47] ++ sub) ps)) := by
  have hB := (Below.refl w.heap.size w).alloc (Nat.le_refl _) (.cells #[.string (ba kind), .string (ba sub), .slice A n c] 26)
  have HB := Lib.hid hB
  have HLI := Lib.hid (line_any (kind ++ [47] ++ sub) ps A n c _ ((hP.below hB).more hB.size) hv hn hL)
  have hlen : (kind ++ [47] ++ sub).length ≤ 9007199254740992 := by
    refine Nat.le_trans ?_ hL
    unfold lineP
    exact Nat.le_trans (Nat.le_add_right _ _) (Nat.le_of_eq List.length_append.symm)
  rw [List.length_append, List.length_append] at hlen
  have hlen2 : kind.length + 1 + sub.length ≤ 9007199254740992 := hlen
  have hap1 : ba kind ++ (⟨#[47]⟩ : ByteArray) = ba (kind ++ [47]) := ba_append kind [47]
  have hap2 := ba_append (kind ++ [47]) sub
  have hl1 : ¬ 9223372036854775807 < (ba kind).size + 1 := by rw [ba_size]; omega
  have hl2 : ¬ 9223372036854775807 < (ba (kind ++ [47])).size + (ba sub).size := by rw [ba_size, ba_size, List.length_append]; show ¬ _ < _ + 1 + _; omega
  obtain ⟨q1, hq1⟩ : ∃ q, kind ++ [47] = q := ⟨_, rfl⟩
  rw [hq1] at hap1 hap2 hl2 HLI ⊢
  obtain ⟨q2, hq2⟩ : ∃ q, q1 ++ sub = q := ⟨_, rfl⟩
  rw [hq2] at hap2 HLI ⊢
  clear hB hP hv hL hlen hlen2 hq1 hq2
  go_enter Tryz.func18, Tryz.ntmps18
  go_wp2_with fail
  refine HLI.out.mono ?_
  rintro e w2 ⟨rfl, hb2⟩
  have HB2 := Lib.hid (HB.out.trans (hb2.mono HB.out.size))
  clear hb2
  go_wp2
  go_ret
  exact str_fin rfl HB2.out
end Go.Proofs.YtnpgnohlcphfnaaGreatDoor
end
section
namespace Go.Proofs.YtnpgnohlcphfnaaGreatDoor
open Go.RowKit
set_option linter.unusedVariables false

set_option maxRecDepth 100000 in
set_option maxHeartbeats 4000000 in
theorem rwithin_any (l : List UInt8) (low : UInt8) (but : List UInt8) (w : World) (hl : l.length ≤ 1000000000) (hbl : but.length ≤ 1000000000) :
    Calls Tryz.prog 42 #[.string (ba l), .int .u8 (low.toNat : Int), .string (ba but)] w fun e w' => e = .returned (.bool (allB low but l)) ∧ w' = w := by
  have HAB := Lib.hid (allB_eq low but l)
  have HLOW := Lib.hid (fun c => okB_low (low := low) (c := c) (but := but))
  have HHIGH := Lib.hid (fun c => okB_high (low := low) (c := c) (but := but))
  have HMID := Lib.hid (fun c => okB_mid (low := low) (c := c) (but := but))
  have HZL := Lib.hid low.toNat_lt
  obtain ⟨z, hz⟩ : ∃ z : Int, (low.toNat : Int) = z := ⟨_, rfl⟩
  simp only [hz] at HLOW HMID
  rw [hz]
  clear hz
  obtain ⟨n, hn⟩ : ∃ n, l.length = n := ⟨_, rfl⟩
  have HL := Lib.hid hn
  obtain ⟨s, hs⟩ : ∃ s, ba l = s := ⟨_, rfl⟩
  have HS := Lib.hid hs
  have HZ := Lib.hid (show s.size = n by rw [← hs, ba_size, hn])
  have hsz : (s.size : Int) = n := by rw [HZ.out]
  rw [hs]
  rw [hn] at hl
  clear hs hn
  go_enter Tryz.func42, Tryz.ntmps42
  go_wp2
  go_loop [7] (fun i => ∃ k : Nat, k ≤ n ∧ i = .int .i64 (k : Int) ∧ Hid ((l.take k).all (okB low but) = true)) (fun i => n - (intOf i).toNat)
  case atStart => exact ⟨0, Nat.zero_le _, rfl, Lib.hid rfl⟩
  case round =>
    obtain ⟨k, hk, rfl, HR⟩ := hrel
    by_cases hlt : k < n
    · have hk2 : (k : Int) < (n : Int) := by omega
      have hk0 : (0 : Int) ≤ (k : Int) := by omega
      have hks : k < s.size := by rw [HZ.out]; omega
      have hkl : k < l.length := by rw [HL.out]; omega
      have hget : s[k] = l[k] := by
        have h := HS.out
        subst h
        rfl
      have HST := Lib.hid (all_snoc hkl HR.out)
      have HIT := Lib.hid (all_stop (f := okB low but) hkl)
      obtain ⟨c, hc⟩ : ∃ c, l[k] = c := ⟨_, rfl⟩
      rw [hc] at hget HST HIT
      obtain ⟨x, hx⟩ : ∃ x : Int, (c.toNat : Int) = x := ⟨_, rfl⟩
      have hgi : ((s[k]).toNat : Int) = x := by rw [hget]; exact hx
      have HX := Lib.hid hx
      have hx0 : 0 ≤ x := by omega
      have hx1 : x ≤ 255 := by have := c.toNat_lt; omega
      clear hc hkl hget hx
      have HLO := Lib.hid (HLOW.out c)
      have HHI := Lib.hid (HHIGH.out c)
      have HMI := Lib.hid (HMID.out c)
      have HHAS := rhas_any but c w hbl
      rw [HX.out] at HLO HHI HMI HHAS
      obtain ⟨b2, hb2⟩ : ∃ b, but.contains c = b := ⟨_, rfl⟩
      rw [hb2] at HHAS HMI
      have HA := Lib.hid HHAS
      clear hb2 HHAS
      by_cases h1 : x < z
      · have HV := Lib.hid (HIT.out (HLO.out h1))
        go_wp2_with fail
        refine HA.out.mono ?_
        rintro e w' ⟨rfl, rfl⟩
        go_wp2
        go_ret
        exact ⟨by rw [HAB.out, HV.out]; rfl, rfl⟩
      · by_cases h2 : 126 < x
        · have HV := Lib.hid (HIT.out (HHI.out h2))
          go_wp2_with fail
          refine HA.out.mono ?_
          rintro e w' ⟨rfl, rfl⟩
          go_wp2
          go_ret
          exact ⟨by rw [HAB.out, HV.out]; rfl, rfl⟩
        · have HM := Lib.hid (HMI.out (by omega) (by omega))
          cases b2
          · have HV := Lib.hid (show (l.take (k + 1)).all (okB low but) = true by rw [HST.out, HM.out]; rfl)
            go_wp2_with fail
            refine HA.out.mono ?_
            rintro e w' ⟨rfl, rfl⟩
            go_wp2
            go_round
            case rel => exact ⟨k + 1, by omega, by go_num, HV⟩
            case measure => simp [intOf] <;> omega
          · have HV := Lib.hid (HIT.out HM.out)
            go_wp2_with fail
            refine HA.out.mono ?_
            rintro e w' ⟨rfl, rfl⟩
            go_wp2
            go_ret
            exact ⟨by rw [HAB.out, HV.out]; rfl, rfl⟩
    · obtain rfl : k = n := by omega
      have HV := Lib.hid (show allB low but l = true by
        rw [HAB.out]
        have := HR.out
        rw [List.take_of_length_le (by rw [HL.out]; exact Nat.le_refl _)] at this
        exact this)
      go_wp2
      go_ret
      exact ⟨by rw [HV.out]; rfl, rfl⟩
theorem hexU_lo {n : Nat} (h : n < 10) : ((hexU n).toNat : Int) = 48 + (n : Int) := by
  unfold hexU
  rw [if_pos h, UInt8.toNat_ofNat']
  omega
theorem hexU_hi {n : Nat} (h : ¬ n < 10) (h2 : n < 16) : ((hexU n).toNat : Int) = 65 + (n : Int) - 10 := by
  unfold hexU
  rw [if_neg h, UInt8.toNat_ofNat']
  omega
set_option maxRecDepth 100000 in
set_option maxHeartbeats 4000000 in
theorem rdigitU_any (n : Nat) (w : World) (hn : n < 16) : Calls Tryz.prog 45 #[.int .u8 (n : Int)] w fun e w' => e = .returned (.int .u8 ((hexU n).toNat : Int)) ∧ w' = w := by
  by_cases h : n < 10
  · have HU := Lib.hid (hexU_lo h)
    go_enter Tryz.func45, Tryz.ntmps45
    go_wp2
    go_ret
    exact ⟨by rw [HU.out]; rfl, rfl⟩
  · have HU := Lib.hid (hexU_hi h hn)
    go_enter Tryz.func45, Tryz.ntmps45
    go_wp2
    go_ret
    exact ⟨by rw [HU.out]; rfl, rfl⟩
end Go.Proofs.YtnpgnohlcphfnaaGreatDoor
end
section
namespace Go.Proofs.YtnpgnohlcphfnaaGreatDoor
open Go.RowKit
set_option linter.unusedVariables false

theorem wpList_pushByte2 {ops : Array Oper} {rest : List Oper} {o : Oper} {a : Act} {W : World} {Q : Exit → Act → World → Prop} {B : Nat} {y z : UInt8} {u t : Int} {v : Value} {l : List UInt8} (hown : OwnBytes W B v l) (hB : B ≤ W.heap.size)
    (hu : u = (y.toNat : Int)) (ht : t = (z.toNat : Int)) (hlen : l.length < 1099511627776) (hgd : o.guard = none) (s x : Operand) (c : Nat)
    (ho : o.op = .call { callee := .builtin .append, args := #[s, x], argTypes := #[59, 59] })
    (hs : a.eval s = v) (hx : a.eval x = .slice (some ⟨W.heap.size, 0, none⟩) 2 c)
    (h : ∀ v' w', OwnBytes w' B v' (l ++ [y, z]) → W.grownBy w' v.ownBlock → wpList Tryz.prog ops Q rest (a.put o.dst v') w') :
    wpList Tryz.prog ops Q (o :: rest) a (W.alloc (.cells #[.int .u8 u, .int .u8 t] 5)) := by
  obtain ⟨i0, hi, hz0, hz1, hz2⟩ := info_parts info_u8
  subst hu
  subst ht
  have hl : (Lib.byteCells l).length = l.length := Lib.byteCells_length l
  refine wpList_append_own_at _ hgd s x 59 ho B 5 i0 _ 1 1 Tryz.underlying59 hi hz0 hz1 hz2 rfl (by omega) v l.length (Lib.byteCells l) hs (World.ownsRow.alloc hown _) ⟨W.heap.size, 0, none⟩ 2 c [.int .u8 y.toNat, .int .u8 z.toNat] hx rfl (World.news_of_block (MapKept.heap_alloc W _).1) ?_ (by simp only [maxLen]; omega) (by omega) (by simp; omega) ?_
  · intro u hu
    simp only [List.mem_cons, List.not_mem_nil, or_false] at hu
    rcases hu with rfl | rfl <;> rfl
  · intro v' w' h1 h2 _ h4
    refine h v' w' ?_ ?_
    · unfold OwnBytes
      rw [Lib.byteCells_append, List.length_append]
      exact h1
    · have h5 := World.grownBy_alloc W (.cells #[.int .u8 y.toNat, .int .u8 z.toNat] 5) v.ownBlock
      exact ⟨h2.os.trans h5.os, h2.tape.trans h5.tape, h2.output.trans h5.output, Nat.le_trans h5.size h2.size, fun k hk hne => (h2.block k (by simp; omega) hne).trans (h5.block k hk hne)⟩
theorem wpList_pushText {ops : Array Oper} {rest : List Oper} {o : Oper} {a : Act} {W : World} {Q : Exit → Act → World → Prop} {B : Nat} {t : List UInt8} {v : Value} {l : List UInt8} (hown : OwnBytes W B v l) (hB : B ≤ W.heap.size)
    (hlen : l.length < 1099511627776) (hlen2 : t.length < 1099511627776) (hgd : o.guard = none) (s x : Operand)
    (ho : o.op = .call { callee := .builtin .append, args := #[s, x], argTypes := #[59, 9] })
    (hs : a.eval s = v) (hx : a.eval x = .string (ba t))
    (h : ∀ v' w', OwnBytes w' B v' (l ++ t) → W.grownBy w' v.ownBlock → wpList Tryz.prog ops Q rest (a.put o.dst v') w') :
    wpList Tryz.prog ops Q (o :: rest) a W := by
  obtain ⟨i0, hi, hz0, hz1, hz2⟩ := info_parts info_u8
  refine Lib.wpList_append_own_string W hgd s x 59 9 ho B 5 i0 Tryz.underlying59 Tryz.underlying9 hi hz0 hz1 hz2 v l.length (Lib.byteCells l) hs hown (ba t) hx (by rw [ba_size]; simp only [maxLen]; omega) (by rw [ba_size]; omega) hB ?_
  intro v' w' h1 h2 _
  refine h v' w' ?_ h2
  unfold OwnBytes
  rw [Lib.byteCells_append, List.length_append]
  rw [ba_size] at h1
  exact h1
end Go.Proofs.YtnpgnohlcphfnaaGreatDoor
end
section
namespace Go.Proofs.YtnpgnohlcphfnaaGreatDoor
open Go.RowKit
set_option linter.unusedVariables false

def EqPost (w : World) (b : Bool) (e : Ending) (w' : World) : Prop := e = .returned (.bool b) ∧ Below w.heap.size w w'
theorem eq_fin {w w' : World} {b c : Bool} (h : b = c) (hb : Below w.heap.size w w') : EqPost w b (.returned (.bool c)) w' := by
  subst h
  exact ⟨rfl, hb⟩
structure PqRel (w : World) (ps qs : List (List UInt8 × List UInt8)) (k : Nat) (wr : World) : Prop where
  eq : ps.take k = qs.take k
  bel : Below w.heap.size w wr
theorem take_same {ps qs : List (List UInt8 × List UInt8)} {k : Nat} (h1 : k < ps.length) (h2 : k < qs.length) (h : ps.take k = qs.take k) (he : ps[k] = qs[k]) : ps.take (k + 1) = qs.take (k + 1) := by
  rw [List.take_succ_eq_append_getElem h1, List.take_succ_eq_append_getElem h2, h, he]
set_option maxRecDepth 100000 in
set_option maxHeartbeats 1000000 in
theorem rparams_any (ps qs : List (List UInt8 × List UInt8)) (A A' : Option Addr) (n n' c c' : Nat) (w : World) (hP : Pars w w.heap.size A n ps) (hQ : Pars w w.heap.size A' n' qs) (hn : n ≤ 1000000000) (hn' : n' ≤ 1000000000) :
    Calls Tryz.prog 17 #[.slice A n c, .slice A' n' c'] w (EqPost w (decide (ps = qs))) := by
  have HP := Lib.hid hP
  have HQ := Lib.hid hQ
  have HN := Lib.hid hP.len
  have HN' := Lib.hid hQ.len
  clear hP hQ
  by_cases hnn : n = n'
  · subst hnn
    go_enter Tryz.func17, Tryz.ntmps17
    go_wp2
    go_loopw [5] (fun i wr => ∃ k : Nat, k ≤ n ∧ i = .int .i64 (k : Int) ∧ Hid (PqRel w ps qs k wr)) (fun i _ => n - (intOf i).toNat)
    case atStart => exact ⟨0, Nat.zero_le _, rfl, Lib.hid ⟨rfl, Below.refl _ _⟩⟩
    case round =>
      obtain ⟨k, hk, rfl, HR⟩ := hrel
      by_cases hlt : k < n
      · have hk2 : (k : Int) < n := by omega
        have hkl : k < ps.length := by rw [HN.out]; exact hlt
        have hkq : k < qs.length := by rw [HN'.out]; exact hlt
        obtain ⟨ad, rfl, _, c0, c1, -⟩ := (HP.out.below HR.out.bel).2 k hkl
        obtain ⟨ae, rfl, _, d0, d1, -⟩ := (HQ.out.below HR.out.bel).2 k hkq
        have HTS := Lib.hid (take_same hkl hkq HR.out.eq)
        have HNE := Lib.hid (fun (h : ps[k] ≠ qs[k]) (e : ps = qs) => h (by subst e; rfl))
        obtain ⟨p, hp⟩ : ∃ p, ps[k] = p := ⟨_, rfl⟩
        obtain ⟨q, hq⟩ : ∃ p, qs[k] = p := ⟨_, rfl⟩
        rw [hp] at c0 c1 HTS HNE
        rw [hq] at d0 d1 HTS HNE
        have HBE := Lib.hid HR.out.bel
        clear hp hq hkl hkq HR
        obtain ⟨p1, p2⟩ := p
        obtain ⟨q1, q2⟩ := q
        have HBD := Lib.hid HBE.out.drew
        by_cases e1 : p1 = q1
        · subst e1
          by_cases e2 : p2 = q2
          · subst e2
            have HT := Lib.hid (HTS.out rfl)
            clear HTS HNE
            go_wp2
            go_region
            all_goals
              go_wp2
              go_roundw
              case rel => exact ⟨k + 1, by omega, by go_num, Lib.hid ⟨HT.out, HBD.out⟩⟩
              case measure => simp [intOf] <;> omega
          · have HF := Lib.hid (show decide (ps = qs) = false from decide_eq_false (HNE.out fun h => e2 (by injection h)))
            have g2 : ¬ (ba p2).toList = (ba q2).toList := by rw [ba_toList, ba_toList]; exact e2
            clear HTS HNE e2
            go_wp2
            go_region
            all_goals
              go_wp2
              go_ret
              exact eq_fin HF.out HBD.out
        · have HF := Lib.hid (show decide (ps = qs) = false from decide_eq_false (HNE.out fun h => e1 (by injection h)))
          have g1 : ¬ (ba p1).toList = (ba q1).toList := by rw [ba_toList, ba_toList]; exact e1
          clear HTS HNE e1
          go_wp2
          go_region
          all_goals
            go_wp2
            go_ret
            exact eq_fin HF.out HBD.out
      · obtain rfl : k = n := by omega
        have HF := Lib.hid (show decide (ps = qs) = true from decide_eq_true (by
          have h := HR.out.eq
          rw [List.take_of_length_le (by rw [HN.out]; exact Nat.le_refl _), List.take_of_length_le (by rw [HN'.out]; exact Nat.le_refl _)] at h
          exact h))
        have HBE := Lib.hid HR.out.bel
        clear HR
        go_wp2
        go_ret
        exact eq_fin HF.out HBE.out
  · have HF := Lib.hid (show decide (ps = qs) = false from decide_eq_false fun h => hnn (by rw [← HN.out, ← HN'.out, h]))
    have g1 : ((n : Int) == (n' : Int)) = false := by simpa using fun h : (n : Int) = (n' : Int) => hnn (by omega)
    have g2 : ¬ (n : Int) = (n' : Int) := by omega
    have HB := Lib.hid (Below.refl w.heap.size w)
    go_enter Tryz.func17, Tryz.ntmps17
    go_wp2
    go_ret
    exact eq_fin HF.out HB.out
end Go.Proofs.YtnpgnohlcphfnaaGreatDoor
end
section
namespace Go.Proofs.YtnpgnohlcphfnaaGreatDoor
open Go.RowKit
set_option linter.unusedVariables false

def digR (c : UInt8) : Int := match hexV c with
  | some a => (a : Int)
  | none => 16
theorem digR_all (c : UInt8) : (48 ≤ c.toNat ∧ c.toNat ≤ 57 → digR c = (c.toNat : Int) - 48) ∧ (97 ≤ c.toNat ∧ c.toNat ≤ 102 → digR c = (c.toNat : Int) - 97 + 10) ∧ (65 ≤ c.toNat ∧ c.toNat ≤ 70 → digR c = (c.toNat : Int) - 65 + 10) ∧
    (¬ (48 ≤ c.toNat ∧ c.toNat ≤ 57) ∧ ¬ (97 ≤ c.toNat ∧ c.toNat ≤ 102) ∧ ¬ (65 ≤ c.toNat ∧ c.toNat ≤ 70) → digR c = 16) ∧ 0 ≤ digR c ∧ digR c ≤ 16 :=
  u8_all (fun c => (48 ≤ c.toNat ∧ c.toNat ≤ 57 → digR c = (c.toNat : Int) - 48) ∧ (97 ≤ c.toNat ∧ c.toNat ≤ 102 → digR c = (c.toNat : Int) - 97 + 10) ∧ (65 ≤ c.toNat ∧ c.toNat ≤ 70 → digR c = (c.toNat : Int) - 65 + 10) ∧
    (¬ (48 ≤ c.toNat ∧ c.toNat ≤ 57) ∧ ¬ (97 ≤ c.toNat ∧ c.toNat ≤ 102) ∧ ¬ (65 ≤ c.toNat ∧ c.toNat ≤ 70) → digR c = 16) ∧ 0 ≤ digR c ∧ digR c ≤ 16) (by decide +kernel) c
theorem digR_hex (c : UInt8) : hexV c = if digR c = 16 then none else some (digR c).toNat :=
  u8_all (fun c => hexV c = if digR c = 16 then none else some (digR c).toNat) (by decide +kernel) c
set_option maxRecDepth 100000 in
set_option maxHeartbeats 4000000 in
theorem rdigit_any (c : UInt8) (w : World) : Calls Tryz.prog 186 #[.int .u8 (c.toNat : Int)] w fun e w' => e = .returned (.int .i64 (digR c)) ∧ w' = w := by
  have h := digR_all c
  have h4 := c.toNat_lt
  obtain ⟨x, hx⟩ : ∃ x : Int, (c.toNat : Int) = x := ⟨_, rfl⟩
  have h1 : 48 ≤ x ∧ x ≤ 57 → digR c = x - 48 := fun h' => by rw [← hx]; exact h.1 (by omega)
  have h2 : 97 ≤ x ∧ x ≤ 102 → digR c = x - 97 + 10 := fun h' => by rw [← hx]; exact h.2.1 (by omega)
  have h3 : 65 ≤ x ∧ x ≤ 70 → digR c = x - 65 + 10 := fun h' => by rw [← hx]; exact h.2.2.1 (by omega)
  have h5 : ¬ (48 ≤ x ∧ x ≤ 57) ∧ ¬ (97 ≤ x ∧ x ≤ 102) ∧ ¬ (65 ≤ x ∧ x ≤ 70) → digR c = 16 := fun h' => h.2.2.2.1 (by omega)
  have hx0 : 0 ≤ x := by omega
  have hx1 : x ≤ 255 := by omega
  have H1 := Lib.hid h1
  have H2 := Lib.hid h2
  have H3 := Lib.hid h3
  have H5 := Lib.hid h5
  rw [hx]
  clear h h4 hx h1 h2 h3 h5
  go_enter Tryz.func186, Tryz.ntmps186
  go_wp2
  all_goals
    go_ret
    refine ⟨?_, rfl⟩
    first
      | (rw [H1.out (by omega)]; rfl)
      | (rw [H2.out (by omega)]; rfl)
      | (rw [H3.out (by omega)]; rfl)
      | (rw [H5.out (by omega)]; rfl)
/-- The state of Unhex's loop: k pairs are read. -/
def RUhRel (w : World) (l : List UInt8) (k : Nat) (v : Value) (wr : World) : Prop :=
  ∃ acc, acc.length = k ∧ OwnBytes wr w.heap.size v acc ∧ unhexP l = (unhexP (l.drop (2 * k))).map (acc ++ ·) ∧ Below w.heap.size w wr
theorem unhex_bad {w w' : World} {l : List UInt8} (h : unhexP l = none) (hb : Below w.heap.size w w') : UnhexPost w l (.returned (.tuple #[.string ⟨#[]⟩, .bool false])) w' := by
  unfold UnhexPost
  rw [h]
  exact ⟨rfl, hb⟩
theorem unhex_good {w w' : World} {l a : List UInt8} (h : unhexP l = some a) (hb : Below w.heap.size w w') : UnhexPost w l (.returned (.tuple #[.string (ba a), .bool true])) w' := by
  unfold UnhexPost
  rw [h]
  exact ⟨rfl, hb⟩
theorem wrap_u8 (z : UInt8) : IntKind.u8.wrap (z.toNat : Int) = (z.toNat : Int) := by
  have := z.toNat_lt
  unfold IntKind.wrap
  simp [IntKind.signed, IntKind.bits]
  omega
set_option maxRecDepth 100000 in
set_option maxHeartbeats 4000000 in
theorem runhex_any (l : List UInt8) (w : World) (hl : l.length ≤ 1000000000) :
    Calls Tryz.prog 153 #[.string (ba l)] w (UnhexPost w l) := by
  obtain ⟨n, hn⟩ : ∃ n, l.length = n := ⟨_, rfl⟩
  have HL := Lib.hid hn
  obtain ⟨s, hs⟩ : ∃ s, ba l = s := ⟨_, rfl⟩
  have HS := Lib.hid hs
  have HZ := Lib.hid (show s.size = n by rw [← hs, ba_size, hn])
  have hsz : (s.size : Int) = n := by rw [HZ.out]
  rw [hs]
  rw [hn] at hl
  clear hs hn
  by_cases hodd : n % 2 = 1
  · have HV := Lib.hid (unhex_odd l (by rw [HL.out]; exact hodd))
    have ho : (n : Int) % 2 = 1 := by omega
    clear hodd
    go_enter Tryz.func153, Tryz.ntmps153
    go_wp2
    go_ret2
    unfold UnhexPost
    rw [HV.out]
    exact ⟨rfl, Below.refl _ _⟩
  obtain ⟨m, hm⟩ : ∃ m, n = 2 * m := ⟨n / 2, by omega⟩
  have hml : m ≤ 1000000000 := by omega
  have ho : (n : Int) % 2 = 0 := by omega
  have HNM := Lib.hid hm
  clear hodd hm
  go_enter Tryz.func153, Tryz.ntmps153
  go_wp2
  clear ho hsz
  go_loopw [4, 5] (fun v i wr => ∃ k : Nat, k ≤ m ∧ i = .int .i64 ((2 * k : Nat) : Int) ∧ Hid (RUhRel w l k v wr)) (fun _ i _ => 2 * m - (intOf i).toNat)
  case atStart => exact ⟨0, Nat.zero_le _, rfl, Lib.hid ⟨[], rfl, OwnBytes.nil_ _ _, by simp, Below.refl _ _⟩⟩
  case round =>
    obtain ⟨k, hk, rfl, HR⟩ := hrel
    obtain ⟨acc, hal, hown, heq, hbel⟩ := HR.out
    have hsz2 := hbel.size
    have HAL := Lib.hid hal
    have HOWN := Lib.hid hown
    have HEQ0 := Lib.hid heq
    have HBE := Lib.hid hbel
    have HAB := Lib.hid (show acc.length < 1099511627776 by omega)
    clear HR hal hown heq hbel
    obtain ⟨j, hj⟩ : ∃ j, 2 * k = j := ⟨_, rfl⟩
    have HJ := Lib.hid hj
    by_cases hlt : k < m
    · have hnm := HNM.out
      have hkl : 2 * k < l.length := by rw [HL.out]; omega
      have hkl2 : 2 * k + 1 < l.length := by rw [HL.out]; omega
      have hge1 : s[2 * k]'(by rw [HZ.out]; omega) = l[2 * k] := by
        have h := HS.out
        subst h
        rfl
      have hge2 : s[2 * k + 1]'(by rw [HZ.out]; omega) = l[2 * k + 1] := by
        have h := HS.out
        subst h
        rfl
      have HUC := Lib.hid (unhex_cons hkl2)
      obtain ⟨c, hc⟩ : ∃ c, l[2 * k] = c := ⟨_, rfl⟩
      obtain ⟨d, hd⟩ : ∃ d, l[2 * k + 1] = d := ⟨_, rfl⟩
      rw [hc] at hge1 HUC
      rw [hd] at hge2 HUC
      obtain ⟨x, hx⟩ : ∃ x : Int, (c.toNat : Int) = x := ⟨_, rfl⟩
      obtain ⟨y, hy⟩ : ∃ x : Int, (d.toNat : Int) = x := ⟨_, rfl⟩
      have hD1 := rdigit_any c
      have hD2 := rdigit_any d
      rw [hx] at hD1
      rw [hy] at hD2
      have hgi1 : ∀ h : j < s.size, ((s[j]'h).toNat : Int) = x := fun h => by subst hj; rw [hge1]; exact hx
      have hgi2 : ∀ h : j + 1 < s.size, ((s[j + 1]'h).toNat : Int) = y := fun h => by subst hj; rw [hge2]; exact hy
      have HB1 := (digR_all c).2.2.2.2
      have HB2 := (digR_all d).2.2.2.2
      have HV1 := Lib.hid (digR_hex c)
      have HV2 := Lib.hid (digR_hex d)
      obtain ⟨v1, hv1⟩ : ∃ v, digR c = v := ⟨_, rfl⟩
      obtain ⟨v2, hv2⟩ : ∃ v, digR d = v := ⟨_, rfl⟩
      simp only [hv1] at hD1 HB1 HV1
      simp only [hv2] at hD2 HB2 HV2
      have HD1 := Lib.hid hD1
      have HD2 := Lib.hid hD2
      have hs1 : (j : Int) < (n : Int) := by omega
      have hs2 : (j : Int) + 1 < (n : Int) := by omega
      have hs9 : (s.size : Int) = n := by rw [HZ.out]
      have hs8 : j + 1 < s.size := by rw [HZ.out]; omega
      have hs7 : j < s.size := by omega
      have hjn : j ≤ 2000000000 := by omega
      clear hnm hc hd hkl hkl2 hx hy hge1 hge2 hv1 hv2 hD1 hD2
      rw [hj]
      clear hj
      go_wp2_with fail
      refine (HD1.out _).mono ?_
      rintro e w8 ⟨rfl, hw⟩
      have hw2 := hw.symm
      subst hw2
      clear hw
      go_wp2_with fail
      refine (HD2.out _).mono ?_
      rintro e w8 ⟨rfl, hw⟩
      have hw2 := hw.symm
      subst hw2
      clear hw
      by_cases e1 : v1 = 16
      · have HV := Lib.hid (show unhexP l = none by
          rw [HEQ0.out, HUC.out, HV1.out, if_pos e1]
          rfl)
        subst e1
        go_wp2
        go_ret2
        exact unhex_bad HV.out HBE.out
      · by_cases e2 : v2 = 16
        · have HV := Lib.hid (show unhexP l = none by
            rw [HEQ0.out, HUC.out, HV1.out, HV2.out, if_neg e1, if_pos e2]
            rfl)
          subst e2
          have g1 : (v1 == 16) = false := by simpa using e1
          go_wp2
          go_ret2
          exact unhex_bad HV.out HBE.out
        · have hb1 : 0 ≤ v1 := HB1.1
          have hb2 : 0 ≤ v2 := HB2.1
          have hb3 : v1 ≤ 15 := by have := HB1.2; omega
          have hb4 : v2 ≤ 15 := by have := HB2.2; omega
          obtain ⟨z, hz⟩ : ∃ z, UInt8.ofNat (v1.toNat * 16 + v2.toNat) = z := ⟨_, rfl⟩
          have hzv : 16 * v1 + v2 = (z.toNat : Int) := by
            rw [← hz, UInt8.toNat_ofNat']
            omega
          have HE := Lib.hid (show unhexP l = (unhexP (l.drop (2 * (k + 1)))).map ((acc ++ [z]) ++ ·) by
            rw [HEQ0.out, HUC.out, HV1.out, HV2.out, if_neg e1, if_neg e2]
            show ((unhexP (l.drop (2 * (k + 1)))).map (UInt8.ofNat (v1.toNat * 16 + v2.toNat) :: ·)).map (acc ++ ·) = _
            rw [hz, Option.map_map]
            congr 1
            funext q
            show acc ++ z :: q = (acc ++ [z]) ++ q
            simp)
          have HZV := Lib.hid hzv
          have hw1 : IntKind.u8.wrap (16 * v1 + v2) = 16 * v1 + v2 := by rw [hzv]; exact wrap_u8 z
          have g1 : (v1 == 16) = false := by simpa using e1
          have g2 : (v2 == 16) = false := by simpa using e2
          clear hz hzv HB1 HB2
          go_wp2_with (at_builtin; go_must (refine wpList_pushByte (y := z) HOWN.out hsz2 HZV.out HAB.out rfl (.tmp 33) (.tmp 39) 1 rfl rfl rfl ?_); intro v6 w6 q1 q2 q3; (have H6 := Lib.hid q1; have HB6 := Lib.hid (HBE.out.grown q2 hsz2 fun q e => (World.ownsRow.lt HOWN.out q e).1); clear q1 q2 q3))
          go_roundw
          case rel => exact ⟨k + 1, by omega, by rw [show ((2 * (k + 1) : Nat) : Int) = (j : Int) + 2 from by have := HJ.out; omega], Lib.hid ⟨acc ++ [z], by rw [List.length_append, HAL.out]; rfl, H6.out, HE.out, HB6.out⟩⟩
          case measure =>
            have hj9 := HJ.out
            simp [intOf]
            omega
    · obtain rfl : k = m := by omega
      have HV := Lib.hid (show unhexP l = some acc by
        rw [HEQ0.out, List.drop_of_length_le (by rw [HL.out, HNM.out]; exact Nat.le_refl _)]
        show some (acc ++ []) = some acc
        rw [List.append_nil])
      have hconv := HOWN.out.str
      have hs9 : (s.size : Int) = n := by rw [HZ.out]
      have hs8 : ¬ (j : Int) < (n : Int) := by have := HNM.out; omega
      rw [hj]
      clear hj
      go_wp2
      go_ret2
      exact unhex_good HV.out HBE.out
end Go.Proofs.YtnpgnohlcphfnaaGreatDoor
end
section
namespace Go.Proofs.YtnpgnohlcphfnaaGreatDoor
open Go.RowKit
set_option linter.unusedVariables false

/-- Decimal digits. -/
def natT (n : Nat) : List UInt8 := if h : n < 10 then [UInt8.ofNat (48 + n)] else natT (n / 10) ++ [UInt8.ofNat (48 + n % 10)]
termination_by n
decreasing_by omega
def textT (v : Int) : List UInt8 := if v < 0 then 45 :: natT (-v).toNat else natT v.toNat
theorem natT_small {n : Nat} (h : n < 10) : natT n = [UInt8.ofNat (48 + n)] := by unfold natT; rw [dif_pos h]
theorem natT_big {n : Nat} (h : ¬ n < 10) : natT n = natT (n / 10) ++ [UInt8.ofNat (48 + n % 10)] := by conv => lhs; unfold natT; rw [dif_neg h]
theorem decV_snoc (l : List UInt8) (c : UInt8) : decV (l ++ [c]) = decV l * 10 + (c.toNat - 48) := by unfold decV; rw [List.foldl_append]; rfl
theorem decV_pos (l : List UInt8) (a : Nat) (h : 0 < a) : 0 < l.foldl (fun a c => a * 10 + (c.toNat - 48)) a := Nat.lt_of_lt_of_le h (decA_ge l a)
/-- Canonical digits are the text of their number. -/
theorem natT_decV : ∀ (n : Nat) (d : List UInt8), d.length ≤ n → d.all digitB = true → d ≠ [] → ¬ (d.head? = some 48 ∧ d ≠ [48]) → natT (decV d) = d
  | 0, d, h, _, h2, _ => absurd (List.eq_nil_of_length_eq_zero (by omega)) h2
  | n + 1, d, h, h1, h2, h3 => by
    obtain ⟨d', c, rfl⟩ : ∃ d' c, d = d' ++ [c] := ⟨d.dropLast, d.getLast h2, (List.dropLast_concat_getLast h2).symm⟩
    rw [List.all_append, Bool.and_eq_true] at h1
    have hc : digitB c = true := by simpa using h1.2
    have hc2 := digitB_nat.1 hc
    have hcc : UInt8.ofNat (48 + (c.toNat - 48)) = c := by
      rw [show 48 + (c.toNat - 48) = c.toNat by omega]
      simp
    rw [decV_snoc]
    by_cases hd : d' = []
    · subst hd
      show natT (0 * 10 + (c.toNat - 48)) = [c]
      rw [Nat.zero_mul, Nat.zero_add, natT_small (by omega), hcc]
    · obtain ⟨a, r, rfl⟩ : ∃ a r, d' = a :: r := by
        cases d' with
        | nil => exact absurd rfl hd
        | cons a r => exact ⟨a, r, rfl⟩
      have ha : a ≠ 48 := fun e => h3 ⟨by rw [e]; rfl, fun e2 => by simp at e2⟩
      have hda : digitB a = true := by have := h1.1; rw [List.all_cons, Bool.and_eq_true] at this; exact this.1
      have ha2 := digitB_nat.1 hda
      have ha3 : a.toNat ≠ 48 := fun e => ha (by rw [← UInt8.toNat_inj]; exact e)
      have hpos : 0 < decV (a :: r) := decV_pos r _ (by show 0 < 0 * 10 + (a.toNat - 48); omega)
      have h9 : (a :: r ++ [c]).length = (a :: r).length + 1 := by rw [List.length_append]; rfl
      have ih := natT_decV n (a :: r) (by omega) h1.1 hd (fun h8 => ha (Option.some.inj h8.1))
      have e1 : (decV (a :: r) * 10 + (c.toNat - 48)) / 10 = decV (a :: r) := by omega
      have e2 : (decV (a :: r) * 10 + (c.toNat - 48)) % 10 = c.toNat - 48 := by omega
      rw [natT_big (by omega), e1, e2, ih, hcc]
theorem natT_all (n : Nat) : (natT n).all digitB = true ∧ natT n ≠ [] ∧ decV (natT n) = n ∧ ((natT n).head? = some 48 → natT n = [48]) := by
  induction n using Nat.strongRecOn with
  | _ n ih =>
    have hd : ∀ k, k < 10 → digitB (UInt8.ofNat (48 + k)) = true ∧ (UInt8.ofNat (48 + k)).toNat = 48 + k := fun k hk => by
      have e : (UInt8.ofNat (48 + k)).toNat = 48 + k := by rw [UInt8.toNat_ofNat']; omega
      exact ⟨digitB_nat.2 (by omega), e⟩
    by_cases h : n < 10
    · rw [natT_small h]
      obtain ⟨h1, h2⟩ := hd n h
      refine ⟨by rw [List.all_cons, h1]; rfl, by simp, ?_, fun e => ?_⟩
      · show 0 * 10 + ((UInt8.ofNat (48 + n)).toNat - 48) = n
        omega
      · rw [Option.some.inj e]
    · obtain ⟨i1, i2, i3, i4⟩ := ih (n / 10) (by omega)
      obtain ⟨h1, h2⟩ := hd (n % 10) (by omega)
      rw [natT_big h]
      refine ⟨by rw [List.all_append, i1, List.all_cons, h1]; rfl, by simp, ?_, fun e => ?_⟩
      · rw [decV_snoc, i3]
        omega
      · exfalso
        have e5 : (natT (n / 10)).head? = some 48 := by
          cases hq : natT (n / 10) with
          | nil => exact absurd hq i2
          | cons a r => rw [hq] at e; exact e
        have h5 := i4 e5
        rw [h5] at i3
        have h6 : decV [48] = 0 := by decide
        omega
theorem textT_canon {l : List UInt8} (h : canonB l) : textT (decN l) = l := by
  obtain ⟨h1, h2, h3⟩ := h
  unfold decN
  by_cases e : l.head? = some 45
  · rw [if_pos e]
    obtain ⟨r, rfl⟩ : ∃ r, l = 45 :: r := by
      cases l with
      | nil => cases e
      | cons c r => exact ⟨r, by rw [Option.some.inj e]⟩
    have hd : decD (45 :: r) = r := rfl
    rw [hd] at h1 h2 h3 ⊢
    have hh : r.head? ≠ some 48 := fun e => h3 ⟨e, fun e2 => by simp at e2⟩
    have hv := natT_decV _ r (Nat.le_refl _) h1 h2 (fun h => hh h.1)
    have hp : 0 < decV r := by
      cases r with
      | nil => exact absurd rfl h2
      | cons a r' =>
        rw [List.all_cons, Bool.and_eq_true] at h1
        have ha2 := digitB_nat.1 h1.1
        have ha3 : a.toNat ≠ 48 := fun e => hh (by rw [show a = 48 by rw [← UInt8.toNat_inj]; exact e]; rfl)
        exact decV_pos r' _ (by show 0 < 0 * 10 + (a.toNat - 48); omega)
    unfold textT
    rw [if_pos (by omega), show (-(-(decV r : Int))).toNat = decV r by omega, hv]
  · rw [if_neg e]
    have hd : decD l = l := by unfold decD; rw [if_neg e]
    rw [hd] at h1 h2 h3 ⊢
    unfold textT
    rw [if_neg (by omega), show ((decV l : Int)).toNat = decV l by omega, natT_decV _ l (Nat.le_refl _) h1 h2 h3]
theorem textT_isCanon (v : Int) : canonB (textT v) ∧ decN (textT v) = v := by
  unfold textT canonB decN decD
  by_cases h : v < 0
  · rw [if_pos h]
    obtain ⟨h1, h2, h3, h4⟩ := natT_all (-v).toNat
    have e : (45 :: natT (-v).toNat).head? = some 45 := rfl
    rw [if_pos e, if_pos e]
    refine ⟨⟨h1, h2, fun ⟨e1, _⟩ => ?_⟩, ?_⟩
    · have h5 := h4 e1
      show False
      rw [h5] at h3
      have h6 : decV [48] = 0 := by decide
      omega
    · show -(decV (natT (-v).toNat) : Int) = v
      rw [h3]
      omega
  · rw [if_neg h]
    obtain ⟨h1, h2, h3, h4⟩ := natT_all v.toNat
    have e : ¬ (natT v.toNat).head? = some 45 := fun e => by
      cases hn : natT v.toNat with
      | nil => exact h2 hn
      | cons a r =>
        rw [hn] at e h1
        have h7 : a = 45 := Option.some.inj e
        rw [List.all_cons, Bool.and_eq_true, h7] at h1
        exact absurd h1.1 (by decide)
    rw [if_neg e, if_neg e]
    exact ⟨⟨h1, h2, fun ⟨e1, e2⟩ => e2 (h4 e1)⟩, by rw [h3]; omega⟩
theorem textT_low {v : Int} (h : v < 0) (h2 : -10 < v) : textT v = [45, UInt8.ofNat (48 - v).toNat] := by
  unfold textT
  rw [if_pos h, natT_small (by omega), show 48 + (-v).toNat = (48 - v).toNat by omega]
theorem textT_digit {v : Int} (h : 0 ≤ v) (h2 : v < 10) : textT v = [UInt8.ofNat (48 + v).toNat] := by
  unfold textT
  rw [if_neg (by omega), natT_small (by omega), show 48 + v.toNat = (48 + v).toNat by omega]
theorem textT_neg {v : Int} (h : v ≤ -10) : textT v = textT (v.tdiv 10) ++ [UInt8.ofNat (48 - v.tmod 10).toNat] := by
  have e1 : v.tdiv 10 = -((-v).toNat / 10 : Nat) := by
    obtain ⟨n, hn⟩ : ∃ n : Nat, v = -(n : Int) := ⟨(-v).toNat, by omega⟩
    subst hn
    rw [Int.neg_tdiv, show (-(-(n : Int))).toNat = n by omega]
    rfl
  have e2 : v.tmod 10 = -((-v).toNat % 10 : Nat) := by
    obtain ⟨n, hn⟩ : ∃ n : Nat, v = -(n : Int) := ⟨(-v).toNat, by omega⟩
    subst hn
    rw [Int.neg_tmod, show (-(-(n : Int))).toNat = n by omega]
    rfl
  rw [e1, e2]
  unfold textT
  rw [if_pos (by omega), if_pos (by omega), natT_big (n := (-v).toNat) (by omega)]
  rw [show (-(-(((-v).toNat / 10 : Nat) : Int))).toNat = (-v).toNat / 10 by omega, show (48 - -(((-v).toNat % 10 : Nat) : Int)).toNat = 48 + (-v).toNat % 10 by omega]
  rfl
theorem textT_pos {v : Int} (h : 10 ≤ v) : textT v = textT (v.tdiv 10) ++ [UInt8.ofNat (48 + v.tmod 10).toNat] := by
  have e1 : v.tdiv 10 = (v.toNat / 10 : Nat) := by
    obtain ⟨n, hn⟩ : ∃ n : Nat, v = (n : Int) := ⟨v.toNat, by omega⟩
    subst hn
    rfl
  have e2 : v.tmod 10 = (v.toNat % 10 : Nat) := by
    obtain ⟨n, hn⟩ : ∃ n : Nat, v = (n : Int) := ⟨v.toNat, by omega⟩
    subst hn
    rfl
  rw [e1, e2]
  unfold textT
  rw [if_neg (by omega), if_neg (by omega), natT_big (n := v.toNat) (by omega)]
  rw [show (((v.toNat / 10 : Nat) : Int)).toNat = v.toNat / 10 by omega, show (48 + ((v.toNat % 10 : Nat) : Int)).toNat = 48 + v.toNat % 10 by omega]
end Go.Proofs.YtnpgnohlcphfnaaGreatDoor
end
