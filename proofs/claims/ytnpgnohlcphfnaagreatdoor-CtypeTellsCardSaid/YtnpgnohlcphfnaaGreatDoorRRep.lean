/- Reference 4: append of a code point's bytes, and the contract of Repair. -/
import Derived.Test.YtnpgnohlcphfnaaGreatDoorRRun
namespace Go.Proofs.YtnpgnohlcphfnaaGreatDoor
open Go.RowKit
set_option linter.unusedVariables false

theorem wpList_pushLaid {ops : Array Oper} {rest : List Oper} {o : Oper} {a : Act} {W : World} {Q : Exit → Act → World → Prop} {B : Nat} {n : Int} {v : Value} {l : List UInt8} (hown : OwnBytes W B v l) (hB : B ≤ W.heap.size)
    (hlen : l.length < 1099511627776) (hgd : o.guard = none) (s x : Operand)
    (ho : o.op = .call { callee := .builtin .append, args := #[s, x], argTypes := #[59, 59] })
    (hs : a.eval s = v) (hx : a.eval x = laidV W n)
    (h : ∀ v' w', OwnBytes w' B v' (l ++ Lib.encodeRune n) → W.grownBy w' v.ownBlock → wpList Tryz.prog ops Q rest (a.put o.dst v') w') :
    wpList Tryz.prog ops Q (o :: rest) a (laidW W n) := by
  obtain ⟨i0, hi, hz0, hz1, hz2⟩ := info_parts info_u8
  have hel := enc_len n
  have hrl := Lib.runeCells_length n
  unfold laidW
  refine wpList_append_own_at _ hgd s x 59 ho B 5 i0 _ 1 1 Tryz.underlying59 hi hz0 hz1 hz2 rfl (by omega) v l.length (Lib.byteCells l) hs (World.ownsRow.alloc hown _) ⟨W.heap.size, 0, none⟩ (Lib.encodeRune n).length (Lib.encodeRune n).length (Lib.runeCells n) hx (by rw [hrl]; omega) (World.news_of_block (MapKept.heap_alloc W _).1) ?_ (by simp only [maxLen]; omega) (by omega) (by simp; omega) ?_
  · intro u hu
    unfold Lib.runeCells at hu
    obtain ⟨z, _, rfl⟩ := List.mem_map.1 hu
    rfl
  · intro v' w' h1 h2 _ h4
    refine h v' w' ?_ ?_
    · unfold OwnBytes
      rw [Lib.byteCells_append, List.length_append, Lib.byteCells_encodeRune]
      exact h1
    · have h5 := World.grownBy_alloc W (.cells (Lib.runeCells n).toArray 5) v.ownBlock
      exact ⟨h2.os.trans h5.os, h2.tape.trans h5.tape, h2.output.trans h5.output, Nat.le_trans h5.size h2.size, fun k hk hne => (h2.block k (by simp; omega) hne).trans (h5.block k hk hne)⟩
theorem uN_sign {l : List UInt8} (h : l ≠ []) : signR ((uN l).1 : Int) = true := by
  unfold signR
  apply decide_eq_true
  have b0 := bt_lt l 0
  rcases uN_cases l h with ⟨h1, h2⟩ | h1 | h1 | h1
  · omega
  · have := bt_lt l 1; omega
  · omega
  · omega
theorem runesF_sign : ∀ (f : Nat) (l : List UInt8), ∀ x ∈ runesF f l, signR x = true
  | 0, _, x, h => by cases h
  | f + 1, l, x, h => by
    unfold runesF at h
    split at h
    · cases h
    · rename_i hne
      rcases List.mem_cons.1 h with rfl | h
      · exact uN_sign hne
      · exact runesF_sign f _ x h
structure RpRel (w : World) (ns : List Int) (k : Nat) (v : Value) (wr : World) : Prop where
  own : OwnBytes wr w.heap.size v (joinR (ns.take k))
  bel : Below w.heap.size w wr
set_option maxRecDepth 100000 in
set_option maxHeartbeats 4000000 in
theorem rrepair_any (l : List UInt8) (w : World) (hl : l.length ≤ 1000000000) :
    Calls Tryz.prog 151 #[.string (ba l)] w (StrB w (repairP l)) := by
  have HRU := Lib.hid (rrunes_any l w hl)
  have HEQ := Lib.hid (repairP_eq l)
  have HRL := Lib.hid (show (runesP l).length ≤ 1000000000 by have : (runesP l).length ≤ l.length := runesF_len l.length l; omega)
  have HSG := Lib.hid (show ∀ x ∈ runesP l, signR x = true from runesF_sign l.length l)
  unfold IntsPost at HRU
  obtain ⟨ns, hns⟩ : ∃ ns, runesP l = ns := ⟨_, rfl⟩
  rw [hns] at HRU HEQ HRL HSG
  clear hns
  go_enter Tryz.func151, Tryz.ntmps151
  go_wp2_with fail
  refine HRU.out.mono ?_
  rintro e w1 ⟨v, rfl, hown, hb⟩
  obtain ⟨A, c, rfl, h1, h2, hI⟩ := hown.ints
  have HI := Lib.hid hI
  have HB := Lib.hid hb
  obtain ⟨n, hn⟩ : ∃ n, ns.length = n := ⟨_, rfl⟩
  have HN := Lib.hid hn
  rw [hn] at HI HRL ⊢
  have hnl := HRL.out
  clear hown h1 h2 hI hb hn
  go_wp2
  go_loopw [3, 5] (fun v i wr => ∃ k : Nat, k ≤ n ∧ i = .int .i64 (k : Int) ∧ Hid (RpRel w1 ns k v wr)) (fun _ i _ => n - (intOf i).toNat)
  case atStart => exact ⟨0, Nat.zero_le _, rfl, Lib.hid ⟨OwnBytes.nil_ _ _, Below.refl _ _⟩⟩
  case round =>
    obtain ⟨k, hk, rfl, HR⟩ := hrel
    have hB := HR.out.bel.size
    by_cases hlt : k < n
    · have hk2 : (k : Int) < n := by omega
      obtain ⟨ad, rfl, hbl, c0⟩ := (HI.out.below HR.out.bel).at_ hlt
      have hkl : k < ns.length := by rw [HN.out]; exact hlt
      have HP := Lib.hid (joinR_snoc hkl)
      have hal := joinR_len (ns.take k)
      rw [List.length_take] at hal
      have HAL := Lib.hid (show (joinR (ns.take k)).length < 1099511627776 by omega)
      have hsg := HSG.out _ (List.getElem_mem hkl)
      rw [show ns[k] = gi ns k from (gi_get hkl).symm] at hsg
      have HOWN := Lib.hid HR.out.own
      have HBE := Lib.hid HR.out.bel
      obtain ⟨x, hx⟩ : ∃ x, gi ns k = x := ⟨_, rfl⟩
      rw [hx] at c0 HP hsg
      have HLA := Lib.hid (rlaid_any x wr hsg)
      clear hx hsg hal hkl HR hbl
      go_wp2_with fail
      refine HLA.out.mono ?_
      rintro e w2 ⟨rfl, hw2⟩
      subst hw2
      go_wp2_with (at_builtin; go_must (refine wpList_pushLaid HOWN.out hB HAL.out rfl (.tmp 14) (.tmp 19) rfl rfl rfl ?_); intro v2 w3 h1 h2; (have H1 := Lib.hid h1; have H2 := Lib.hid h2; clear h1 h2))
      go_roundw
      case rel =>
        refine ⟨k + 1, by omega, by go_num, Lib.hid ⟨?_, HBE.out.grown H2.out hB fun g e => (World.ownsRow.lt HOWN.out g e).1⟩⟩
        rw [HP.out]
        exact H1.out
      case measure => simp [intOf] <;> omega
    · obtain rfl : n = k := by omega
      have hst := HR.out.own.str
      have HBE := Lib.hid HR.out.bel
      rw [List.take_of_length_le (by rw [HN.out]; exact Nat.le_refl _), ← HEQ.out] at hst
      clear HR
      go_wp2
      go_ret
      exact str_fin rfl (HB.out.trans (HBE.out.mono HB.out.size))
end Go.Proofs.YtnpgnohlcphfnaaGreatDoor
