/- append of two bytes, and of a string, onto a row of bytes of the call's own. Layer 5: the reference's Fold. A region that draws its order: operations that only read, then a forced tail. Layer 32: the contract of the reference's Words. Layer 32: the contract of the reference's List. -/
import Derived.Lib.AppendStr
import Derived.StillTailTactics
import Derived.Test.YtomcdhmcjndioaaGreatDoorV04
import Derived.Test.YtomcdhmcjndioaaGreatDoorV15
import Derived.Test.YtomcdhmcjndioaaGreatDoorV01
import Derived.Test.YtomcdhmcjndioaaGreatDoorV14
section
namespace Go.Proofs.YtomcdhmcjndioaaGreatDoor
open Go.RowKit
set_option linter.unusedVariables false

theorem wpList_pushByte2 {ops : Array Oper} {rest : List Oper} {o : Oper} {a : Act} {W : World} {Q : Exit → Act → World → Prop} {B : Nat} {y z : UInt8} {u t : Int} {v : Value} {l : List UInt8} (hown : OwnBytes W B v l) (hB : B ≤ W.heap.size)
    (hu : u = (y.toNat : Int)) (ht : t = (z.toNat : Int)) (hlen : l.length < 1099511627776) (hgd : o.guard = none) (s x : Operand) (c : Nat)
    (ho : o.op = .call { callee := .builtin .append, args := #[s, x], argTypes := #[93, 93] })
    (hs : a.eval s = v) (hx : a.eval x = .slice (some ⟨W.heap.size, 0, none⟩) 2 c)
    (h : ∀ v' w', OwnBytes w' B v' (l ++ [y, z]) → W.grownBy w' v.ownBlock → wpList Tryz.prog ops Q rest (a.put o.dst v') w') :
    wpList Tryz.prog ops Q (o :: rest) a (W.alloc (.cells #[.int .u8 u, .int .u8 t] 5)) := by
  obtain ⟨i0, hi, hz0, hz1, hz2⟩ := info_parts info_u8
  subst hu
  subst ht
  have hl : (Lib.byteCells l).length = l.length := Lib.byteCells_length l
  refine wpList_append_own_at _ hgd s x 93 ho B 5 i0 _ 1 1 Tryz.underlying93 hi hz0 hz1 hz2 rfl (by omega) v l.length (Lib.byteCells l) hs (World.ownsRow.alloc hown _) ⟨W.heap.size, 0, none⟩ 2 c [.int .u8 y.toNat, .int .u8 z.toNat] hx rfl (World.news_of_block (MapKept.heap_alloc W _).1) ?_ (by simp only [maxLen]; omega) (by omega) (by simp; omega) ?_
  · intro u hu
    simp only [List.mem_cons, List.not_mem_nil, or_false] at hu
    rcases hu with rfl | rfl <;> rfl
  · intro v' w' h1 h2 _ h4
    refine h v' w' ?_ ?_
    · unfold OwnBytes
      rw [Lib.byteCells_append, List.length_append]
      exact h1
    · have h5 := World.grownBy_alloc W (.cells #[.int .u8 y.toNat, .int .u8 z.toNat] 5) v.ownBlock
      exact ⟨h2.os.trans h5.os, h2.tape.trans h5.tape, h2.output.trans h5.output, Nat.le_trans h5.size h2.size, fun k hk hne => (h2.block k (by simp; omega) hne).trans (h5.block k hk hne)⟩
theorem wpList_pushText {ops : Array Oper} {rest : List Oper} {o : Oper} {a : Act} {W : World} {Q : Exit → Act → World → Prop} {B : Nat} {t : List UInt8} {v : Value} {l : List UInt8} (hown : OwnBytes W B v l) (hB : B ≤ W.heap.size)
    (hlen : l.length < 1099511627776) (hlen2 : t.length < 1099511627776) (hgd : o.guard = none) (s x : Operand)
    (ho : o.op = .call { callee := .builtin .append, args := #[s, x], argTypes := #[93, 9] })
    (hs : a.eval s = v) (hx : a.eval x = .string (ba t))
    (h : ∀ v' w', OwnBytes w' B v' (l ++ t) → W.grownBy w' v.ownBlock → wpList Tryz.prog ops Q rest (a.put o.dst v') w') :
    wpList Tryz.prog ops Q (o :: rest) a W := by
  obtain ⟨i0, hi, hz0, hz1, hz2⟩ := info_parts info_u8
  refine Lib.wpList_append_own_string W hgd s x 93 9 ho B 5 i0 Tryz.underlying93 Tryz.underlying9 hi hz0 hz1 hz2 v l.length (Lib.byteCells l) hs hown (ba t) hx (by rw [ba_size]; simp only [maxLen]; omega) (by rw [ba_size]; omega) hB ?_
  intro v' w' h1 h2 _
  refine h v' w' ?_ h2
  unfold OwnBytes
  rw [Lib.byteCells_append, List.length_append]
  rw [ba_size] at h1
  exact h1
end Go.Proofs.YtomcdhmcjndioaaGreatDoor
end
section
namespace Go.Proofs.YtomcdhmcjndioaaGreatDoor
open Go.RowKit
set_option linter.unusedVariables false

theorem Strs.at_ {w : World} {B n k : Nat} {A : Option Addr} {ss : List (List UInt8)} (h : Strs w B A n ss) (hk : k < ss.length) : ∃ ad, A = some ad ∧ ad.block < B ∧ w.cell? (ad.add k) = some (.string (ba ss[k])) := by
  obtain ⟨ad, u, e, hb, hx, hc⟩ := h.2.at_ (k := k) (by simpa [sv] using hk)
  refine ⟨ad, e, hb, ?_⟩
  rw [hc, ← hx]
  simp [sv, hk]
theorem Strs.below {w w' : World} {B n : Nat} {A : Option Addr} {ss : List (List UInt8)} (h : Strs w B A n ss) (hb : Below B w w') : Strs w' B A n ss := ⟨h.1, h.2.below hb⟩
def RFoldRel (w : World) (us : List (List UInt8)) (k : Nat) (v : Value) (wr : World) : Prop := OwnBytes wr w.heap.size v ((us.take k).flatMap gU) ∧ Below w.heap.size w wr
set_option maxRecDepth 100000 in
set_option maxHeartbeats 4000000 in
theorem rfold_any (l : List UInt8) (w : World) (hl : l.length ≤ 1000000000) : Calls Tryz.prog 148 #[.string (ba l)] w (StrPost w (foldP l)) := by
  go_enter Tryz.func148, Tryz.ntmps148
  go_wp2_with fail
  refine (units_any l w hl).mono ?_
  rintro e w1 ⟨v, rfl, hv, hb⟩
  obtain ⟨A, c, rfl, hc1, hc2, hS⟩ := hv.strs
  have HF := Lib.hid (fold_units l.length l (Nat.le_refl _))
  have HM := Lib.hid (units_mem l.length l (Nat.le_refl _))
  have hul := units_len l.length l (Nat.le_refl _)
  obtain ⟨us, hus⟩ : ∃ us, unitsP l = us := ⟨_, rfl⟩
  rw [hus] at hS HF HM hul hc1
  rw [hus]
  obtain ⟨n, hn⟩ : ∃ n, us.length = n := ⟨_, rfl⟩
  rw [hn] at hS hul hc1
  rw [hn]
  have HN := Lib.hid hn
  have HS := Lib.hid hS
  have HB := Lib.hid hb
  have hn9 : n ≤ 1000000000 := by omega
  have hsz1 : w.heap.size ≤ w1.heap.size := hb.size
  clear hn hS hb hv hus hul hl hc2
  go_wp2
  go_loopw [4, 5] (fun v i wr => ∃ k : Nat, k ≤ n ∧ i = .int .i64 (k : Int) ∧ Hid (RFoldRel w1 us k v wr)) (fun _ i _ => n - (intOf i).toNat)
  case atStart => exact ⟨0, Nat.zero_le _, rfl, OwnBytes.nil_ _ _, Below.refl _ _⟩
  case round =>
    obtain ⟨k, hk, rfl, HR⟩ := hrel
    have hB := HR.out.2.size
    by_cases hlt : k < n
    · have hk2 : (k : Int) < n := by omega
      have hkl : k < us.length := by rw [HN.out]; exact hlt
      obtain ⟨ad, rfl, hbl, c0⟩ := (HS.out.below HR.out.2).at_ hkl
      obtain ⟨u, hu⟩ : ∃ u, us[k] = u := ⟨_, rfl⟩
      have hm := HM.out _ (List.getElem_mem hkl)
      rw [hu] at c0 hm
      have HT := Lib.hid (show (us.take (k + 1)).flatMap gU = (us.take k).flatMap gU ++ gU u by
        rw [List.take_succ_eq_append_getElem hkl, List.flatMap_append, hu]; simp)
      have HAL := Lib.hid (show ((us.take k).flatMap gU).length < 1099511627776 by
        have := gU_all (us.take k) (fun u hu => (HM.out u (List.mem_of_mem_take hu)).2)
        rw [List.length_take] at this; omega)
      have HOWN := Lib.hid HR.out.1
      have HBEL := Lib.hid HR.out.2
      obtain ⟨s, hs⟩ : ∃ s, ba u = s := ⟨_, rfl⟩
      have hss : s.size = u.length := by rw [← hs, ba_size]
      have HG := Lib.hid (show ∀ j (hj : j < s.size), (s[j]'hj).toNat = bt u j from fun j hj => by subst hs; exact byte_at u j hj)
      have HU := Lib.hid hs
      rw [hs] at c0
      clear hu hs HR
      obtain ⟨m, hm1⟩ : ∃ m, u.length = m := ⟨_, rfl⟩
      have HML := Lib.hid hm1
      rw [hm1] at hss hm
      clear hm1
      by_cases h1 : m = 1
      · subst h1
        have hz : (s.size : Int) = 1 := by omega
        have hp : 0 < s.size := by omega
        have hu1 : (s[0].toNat : Int) ≤ 255 := by have := s[0].toNat_lt; omega
        have hu0 : (0 : Int) ≤ (s[0].toNat : Int) := by omega
        by_cases hb : s[0].toNat < 128
        · have hb2 : (s[0].toNat : Int) < 128 := by omega
          have HGU0 := Lib.hid (show gU u = [UInt8.ofNat (rlower (s[0].toNat : Int)).toNat] by
            unfold gU
            rw [if_pos HML.out, ← HG.out 0 hp, if_pos hb])
          go_wp2_with fail
          refine (rlowerR_any _ wr hu0 (by omega)).mono ?_
          rintro e w2 ⟨rfl, rfl⟩
          have hlo := rlower_low hu0
          obtain ⟨y, hy⟩ : ∃ y, rlower (s[0].toNat : Int) = y := ⟨_, rfl⟩
          rw [hy] at hlo HGU0
          rw [hy]
          have HGU := Lib.hid HGU0.out
          have hy0 : 0 ≤ y := hlo.1
          have hy1 : y ≤ 255 := by omega
          have HYB := Lib.hid (show y = ((UInt8.ofNat y.toNat).toNat : Int) by rw [UInt8.toNat_ofNat']; omega)
          clear hy hlo
          go_wp2_with (at_builtin; go_must (refine wpList_pushByte (y := UInt8.ofNat y.toNat) HOWN.out hB HYB.out HAL.out rfl (.tmp 39) (.tmp 42) 1 rfl rfl rfl ?_); intro v2 w2 h1 h2 h3; (have H1 := Lib.hid h1; have H2 := Lib.hid h2; clear h1 h2 h3))
          go_roundw
          case rel =>
            refine ⟨k + 1, by omega, by go_num, ?_, HBEL.out.grown H2.out hB fun g e => (World.ownsRow.lt HOWN.out g e).1⟩
            rw [HT.out, HGU.out]
            exact H1.out
          case measure => simp [intOf] <;> omega
        · have hb2 : ¬ (s[0].toNat : Int) < 128 := by omega
          have HGU := Lib.hid (show gU u = [s[0]] by
            unfold gU
            rw [if_pos HML.out, ← HG.out 0 hp, if_neg hb]
            have h9 := HML.out
            have h10 := HU.out
            subst h10
            match u, h9 with
            | [a], _ => rfl)
          go_wp2_with (at_builtin; go_must (refine wpList_pushByte (y := s[0]) HOWN.out hB rfl HAL.out rfl (.tmp 39) (.tmp 42) 1 rfl rfl rfl ?_); intro v2 w2 h1 h2 h3; (have H1 := Lib.hid h1; have H2 := Lib.hid h2; clear h1 h2 h3))
          go_roundw
          case rel =>
            refine ⟨k + 1, by omega, by go_num, ?_, HBEL.out.grown H2.out hB fun g e => (World.ownsRow.lt HOWN.out g e).1⟩
            rw [HT.out, HGU.out]
            exact H1.out
          case measure => simp [intOf] <;> omega
      · by_cases h2 : m = 2
        · subst h2
          have HSZ := Lib.hid hss
          have hz : (s.size : Int) = 2 := by omega
          have hru := rrune_any u wr (by rw [HML.out]; omega) (by rw [HML.out]; omega)
          rw [HU.out] at hru
          have HRU := Lib.hid hru
          have hx2 : rv u < 2048 := by
            unfold rv
            rw [HML.out, if_neg (by omega)]
            have := rvF_lt u 1
            omega
          have HGU0 := Lib.hid (show gU u = [UInt8.ofNat (192 + (rlower (rv u : Int)).toNat / 64), UInt8.ofNat (128 + (rlower (rv u : Int)).toNat % 64)] by
            unfold gU
            rw [HML.out, if_neg (by omega), if_pos rfl])
          clear hru
          go_wp2_with fail
          refine HRU.out.mono ?_
          rintro e w2 ⟨rfl, rfl⟩
          have hx3 : (0 : Int) ≤ (rv u : Int) ∧ (rv u : Int) < 2048 := by omega
          obtain ⟨x, hx⟩ : ∃ x : Int, (rv u : Int) = x := ⟨_, rfl⟩
          rw [hx] at hx3 HGU0
          rw [hx]
          have HX3 := Lib.hid hx3
          clear hx hx2 hx3 HRU
          go_wp2_with fail
          refine (rlowerR_any _ _ HX3.out.1 HX3.out.2).mono ?_
          rintro e w3 ⟨rfl, rfl⟩
          have hx2 := HX3.out
          have hlo := rlower_low HX3.out.1
          obtain ⟨y, hy⟩ : ∃ y, rlower x = y := ⟨_, rfl⟩
          rw [hy] at hlo HGU0
          rw [hy]
          have HGU := Lib.hid HGU0.out
          have hy0 : 0 ≤ y := hlo.1
          have hy1 : y ≤ 2127 := by omega
          clear hy hlo hx2
          have HQ1 := Lib.hid (show 192 + y / 64 = ((UInt8.ofNat (192 + y.toNat / 64)).toNat : Int) by rw [UInt8.toNat_ofNat']; omega)
          have HQ2 := Lib.hid (show 128 + y % 64 = ((UInt8.ofNat (128 + y.toNat % 64)).toNat : Int) by rw [UInt8.toNat_ofNat']; omega)
          go_wp2_with (at_builtin; go_must (refine wpList_pushByte2 (y := UInt8.ofNat (192 + y.toNat / 64)) (z := UInt8.ofNat (128 + y.toNat % 64)) HOWN.out hB HQ1.out HQ2.out HAL.out rfl (.tmp 52) (.tmp 61) 2 rfl rfl rfl ?_); intro v2 w4 h1 h2; (have H1 := Lib.hid h1; have H2 := Lib.hid h2; clear h1 h2))
          go_roundw
          case rel =>
            refine ⟨k + 1, by omega, by go_num, ?_, HBEL.out.grown H2.out hB fun g e => (World.ownsRow.lt HOWN.out g e).1⟩
            rw [HT.out, HGU.out]
            exact H1.out
          case measure => simp [intOf] <;> omega
        · have h3 : 3 ≤ m := by omega
          have hz : (3 : Int) ≤ (s.size : Int) := by omega
          have HGU := Lib.hid (show gU u = u by unfold gU; rw [HML.out, if_neg (by omega), if_neg (by omega)])
          have hq1 : ¬ (s.size : Int) = 1 := by omega
          have hq2 : ¬ (s.size : Int) = 2 := by omega
          go_wp2_with (at_builtin; go_must (refine wpList_pushText (t := u) HOWN.out hB HAL.out (by rw [HML.out]; omega) rfl (.tmp 21) (.tmp 25) rfl rfl (by rw [HU.out]; rfl) ?_); intro v2 w2 h1 h2; (have H1 := Lib.hid h1; have H2 := Lib.hid h2; clear h1 h2))
          go_roundw
          case rel =>
            refine ⟨k + 1, by omega, by go_num, ?_, HBEL.out.grown H2.out hB fun g e => (World.ownsRow.lt HOWN.out g e).1⟩
            rw [HT.out, HGU.out]
            exact H1.out
          case measure => simp [intOf] <;> omega
    · obtain rfl : k = n := by omega
      have hfin : (us.take k).flatMap gU = foldP l := by
        rw [HF.out, List.take_of_length_le (by rw [HN.out]; exact Nat.le_refl _)]
      have hown := HR.out.1
      rw [hfin] at hown
      have hstr := hown.str
      have HB2 := Lib.hid (HB.out.trans (HR.out.2.mono hsz1))
      clear hfin hown HR
      go_wp2
      go_ret
      exact ⟨rfl, HB2.out⟩
end Go.Proofs.YtomcdhmcjndioaaGreatDoor
end
section
namespace Go.Proofs.YtomcdhmcjndioaaGreatDoor
open Go.RowKit
set_option linter.unusedVariables false
theorem wp_region_tail {P : Program} {id : Nat} {Q : Exit → Act → World → Prop} {a : Act} {w : World} {l : List Oper} (n : Nat) (hm : P.follows .mixedOrders = true) (hB : Region.lexTailB .any l.toArray n = true)
    (h : wpStill P l.toArray w.drew (fun a' => wpList P l.toArray Q (l.drop n) a' w.drew) (l.take n) a) : (Code.region id l.toArray true).wp P Q a w := wp_region_still_tail n hm hB h
end Go.Proofs.YtomcdhmcjndioaaGreatDoor
end
section
namespace Go.Proofs.YtomcdhmcjndioaaGreatDoor
open Go.RowKit
set_option linter.unusedVariables false

theorem uK_cases (u : List UInt8) : uK u = 0 ∨ uK u = 1 ∨ uK u = 2 := by
  unfold uK kindP
  repeat' split
  all_goals simp
def RWRel (w1 : World) (l : List UInt8) (us : List (List UInt8)) (k pos : Nat) (opn : Bool) (v : Value) (wr : World) : Prop := ∃ ts, RWSt l us k pos opn ts ∧ OwnWds wr w1.heap.size v ts ∧ Below w1.heap.size w1 wr
/-- The words of which the first k have their texts. -/
def mixW (l : List UInt8) (ts : List Wd) (k : Nat) : List Wd := (ts.take k).map (fun t => (wordAt l t.2, t.2)) ++ ts.drop k
theorem mix_len (l : List UInt8) (ts : List Wd) (q : Nat) (h : q ≤ ts.length) : (mixW l ts q).length = ts.length := by
  unfold mixW
  rw [List.length_append, List.length_map, List.length_take, List.length_drop]; omega
theorem mix_get (l : List UInt8) (ts : List Wd) {q : Nat} (h : q < ts.length) : (mixW l ts q)[q]? = some ts[q] := by
  unfold mixW
  rw [List.getElem?_append_right (by rw [List.length_map, List.length_take]; omega), List.length_map, List.length_take, Nat.min_eq_left (Nat.le_of_lt h), Nat.sub_self, List.getElem?_drop, Nat.add_zero, List.getElem?_eq_getElem h]
theorem mix_set (l : List UInt8) (ts : List Wd) {q : Nat} (h : q < ts.length) : (mixW l ts q).set q (wordAt l ts[q].2, ts[q].2) = mixW l ts (q + 1) := by
  unfold mixW
  rw [List.set_append_right _ _ (by rw [List.length_map, List.length_take]; omega), List.length_map, List.length_take, Nat.min_eq_left (Nat.le_of_lt h), Nat.sub_self, List.drop_eq_getElem_cons h, List.set_cons_zero, List.take_succ_eq_append_getElem h, List.map_append, List.append_assoc]
  rfl
theorem mix_zero (l : List UInt8) (ts : List Wd) : mixW l ts 0 = ts := by simp [mixW]
theorem mix_all (l : List UInt8) (ts : List Wd) {ws : List (Nat × Nat)} (h : ts.map (·.2) = ws) : mixW l ts ts.length = ws.map fun r => (wordAt l r, r) := by
  unfold mixW
  rw [List.take_length, List.drop_length, List.append_nil, ← h, List.map_map]; rfl
def RWRel2 (w1 : World) (l : List UInt8) (ts : List Wd) (k : Nat) (v : Value) (wr : World) : Prop := OwnWds wr w1.heap.size v (mixW l ts k) ∧ Below w1.heap.size w1 wr
/-- A cell of the row of words that has been set. -/
theorem OwnWds.setAt {w : World} {B n c j : Nat} {ad : Addr} {ts : List Wd} {g : Nat} (hg : (⟨g, 0, none⟩ : Addr) = ad) (h : OwnWds w B (.slice (some ad) n c) ts) (hk : j < ts.length) {i : Nat} (hi : i < 3) {u : Value} {t : Wd} (ht : (wdCells ts[j]).set i u = wdCells t) :
    OwnWds (w.setCell ⟨(ad.add (j * 3)).block, (ad.add (j * 3)).off + i, none⟩ u) B (.slice (some ad) n c) (ts.set j t) := by
  subst hg
  have e1 : (Addr.add ⟨g, 0, none⟩ (j * 3)) = ⟨g, j * 3, none⟩ := by
    unfold Addr.add
    split
    · rename_i e0; rw [e0]
    · rw [Nat.zero_add]
  rw [e1]
  exact OwnWds.set h hk hi ht
theorem OwnWds.cells {w : World} {B : Nat} {v : Value} {ts : List Wd} (h : OwnWds w B v ts) {k : Nat} (hk : k < ts.length) : ∃ g ad c, (⟨g, 0, none⟩ : Addr) = ad ∧ v = .slice (some ad) ts.length c ∧ B ≤ (ad.add (k * 3)).block ∧ (ad.add (k * 3)).block < w.heap.size ∧
    w.cell? (ad.add (k * 3)) = some (.string (ba ts[k].1)) ∧ w.cell? ⟨(ad.add (k * 3)).block, (ad.add (k * 3)).off + 1, none⟩ = some (.int .i64 ts[k].2.1) ∧ w.cell? ⟨(ad.add (k * 3)).block, (ad.add (k * 3)).off + 2, none⟩ = some (.int .i64 ts[k].2.2) ∧
    w.frozen? (ad.add (k * 3)) = false ∧ w.frozen? ⟨(ad.add (k * 3)).block, (ad.add (k * 3)).off + 2, none⟩ = false := by
  obtain ⟨g, c, e, h1, h2, h3, h4, h5, h6, h7⟩ := h.at_ hk
  have e1 : (Addr.add ⟨g, 0, none⟩ (k * 3)) = ⟨g, k * 3, none⟩ := by
    unfold Addr.add
    split
    · rename_i e0; rw [e0]
    · rw [Nat.zero_add]
  refine ⟨g, _, c, rfl, e, ?_, ?_, ?_, ?_, ?_, ?_, ?_⟩
  all_goals rw [e1]
  all_goals assumption
theorem OwnWds.shape {w : World} {B : Nat} {v : Value} {ts : List Wd} (h : OwnWds w B v ts) : ∃ A c, v = .slice A ts.length c := by
  have h0 : w.ownsRow B 69 3 v ts.length (ts.flatMap wdCells) := h
  rcases h0.2 with ⟨rfl, hn⟩ | ⟨g, cap, cur, rfl, _⟩
  · exact ⟨none, 0, by rw [hn]⟩
  · exact ⟨_, cap, rfl⟩
set_option maxRecDepth 100000 in
set_option maxHeartbeats 8000000 in
theorem rwords_any (l : List UInt8) (w : World) (hl : l.length ≤ 100000000) : Calls Tryz.prog 131 #[.string (ba l)] w (WordsBack w l) := by
  have HL := Lib.hid hl
  go_enter Tryz.func131, Tryz.ntmps131
  go_wp2_with fail
  refine (units_any l w (by omega)).mono ?_
  rintro e w1 ⟨v, rfl, hv, hb⟩
  obtain ⟨A, c, rfl, hc1, hc2, hS⟩ := hv.strs
  have hul := units_len l.length l (Nat.le_refl _)
  have HST := Lib.hid (RWSt.start l)
  obtain ⟨us, hus⟩ : ∃ us, unitsP l = us := ⟨_, rfl⟩
  rw [hus] at hS HST hul hc1
  rw [hus]
  obtain ⟨n, hn⟩ : ∃ n, us.length = n := ⟨_, rfl⟩
  rw [hn] at hS hul hc1
  rw [hn]
  have HN := Lib.hid hn
  have HS := Lib.hid hS
  have HB := Lib.hid hb
  have hn9 : n ≤ 100000000 := by omega
  have hsz1 : w.heap.size ≤ w1.heap.size := hb.size
  clear hn hS hb hv hus hul hl hc2
  go_wp2
  go_loopw [4, 5, 6, 7] (fun o a p i wr => ∃ (k pos : Nat) (opn : Bool), k ≤ n ∧ i = .int .i64 (k : Int) ∧ a = .int .i64 (pos : Int) ∧ p = .bool opn ∧ Hid (RWRel w1 l us k pos opn o wr)) (fun _ _ _ i _ => n - (intOf i).toNat)
  case atStart => exact ⟨0, 0, false, Nat.zero_le _, rfl, rfl, rfl, [], HST.out, OwnWds.nil_ _ _, Below.refl _ _⟩
  case round =>
    obtain ⟨k, pos, opn, hk, rfl, rfl, rfl, HR⟩ := hrel
    obtain ⟨ts, hst, hown, hbw⟩ := HR.out
    have hB : w1.heap.size ≤ wr.heap.size := hbw.size
    by_cases hlt : k < n
    · have hk2 : (k : Int) < n := by omega
      have hkl : k < us.length := by rw [HN.out]; exact hlt
      obtain ⟨ad, rfl, hbl, c0⟩ := HS.out.at_ hkl
      have hbl2 : (ad.add k).block < w1.heap.size := by rw [add_block]; exact hbl
      obtain ⟨d, hud, hd1, hd4, hul, hpl, hnx⟩ := hst.step hkl
      have hfew := hst.few
      have hbare := hst.bare
      have hsome := hst.some_
      obtain ⟨u, hu⟩ : ∃ u, us[k] = u := ⟨_, rfl⟩
      rw [hu] at c0 hnx hul
      clear hu hud
      have hkc := uK_cases u
      have HRU := Lib.hid (runit_any u wr (by omega) (by omega))
      obtain ⟨kd, hkd⟩ : ∃ kd, uK u = kd := ⟨_, rfl⟩
      rw [hkd] at hkc hnx HRU
      obtain ⟨s, hs⟩ : ∃ s, ba u = s := ⟨_, rfl⟩
      have hss : s.size = d := by rw [← hs, ba_size, hul]
      rw [hs] at c0 HRU
      have HC := Lib.hid (show ∀ W, Below w1.heap.size w1 W → W.cell? (ad.add k) = some (.string s) from fun W h => (h.cell hbl2).trans c0)
      clear c0
      have c0 := HC.out wr hbw
      have hpos9 : pos + d ≤ 100000000 := by have := HL.out; omega
      have HNX := Lib.hid hnx
      have HOWN := Lib.hid hown
      have HBW := Lib.hid hbw
      have HSOME := Lib.hid hsome
      have HBARE := Lib.hid hbare
      obtain ⟨m, hm⟩ : ∃ m, ts.length = m := ⟨_, rfl⟩
      rw [hm] at hfew
      have HM := Lib.hid hm
      have hmk : m ≤ 100000000 := by omega
      clear hst hnx hown hbw hsome hbare hkd hs hul hpl hfew HR hm
      have hd0 : (s.size : Int) = (d : Int) := by omega
      rcases hkc with rfl | rfl | rfl
      · -- no word
        have HNX0 := Lib.hid (show RWSt l us (k + 1) (pos + d) false ts from by have := HNX.out; unfold wdStep at this; simpa using this)
        obtain ⟨A2, c2, rfl⟩ := HOWN.out.shape
        rw [HM.out]
        clear HNX
        have w9 : IntKind.i64.wrap ((pos : Int) + (s.size : Int)) = ((pos + d : Nat) : Int) := by rw [hd0]; exact (IntWalk.i64_in _ (by omega)).trans (by omega)
        go_wp2_with fail
        refine HRU.out.mono ?_
        rintro e w' ⟨rfl, rfl⟩
        go_wp2
        go_quiet (fail)
        go_wp2
        go_roundw
        case rel => exact ⟨k + 1, pos + d, false, by omega, by go_num, by go_num, rfl, ts, HNX0.out, by have := HOWN.out; rw [HM.out] at this; exact this, Below.drewN HBW.out _⟩
        case measure => simp [intOf] <;> omega
      · cases opn with
        | false =>
          · -- a word begins: nothing is open
            have HNX0 := Lib.hid (show RWSt l us (k + 1) (pos + d) true (ts ++ [([], pos, pos + d)]) from by have := HNX.out; unfold wdStep at this; simpa using this)
            have hal : ts.length ≤ 1000000000 := by rw [HM.out]; omega
            have HAL := Lib.hid hal
            clear hal
            obtain ⟨A2, c2, rfl⟩ := HOWN.out.shape
            rw [HM.out]
            have HOWN2 := Lib.hid HOWN.out
            rw [HM.out] at HOWN2
            clear HNX
            have w9 : IntKind.i64.wrap ((pos : Int) + (s.size : Int)) = ((pos + d : Nat) : Int) := by rw [hd0]; exact (IntWalk.i64_in _ (by omega)).trans (by omega)
            go_wp2_with fail
            refine HRU.out.mono ?_
            rintro e w' ⟨rfl, rfl⟩
            go_wp2
            go_quiet (fail)
            go_wp2_with (at_builtin; go_must (refine wpList_pushWd (W := w'.drewN nq) (t := ([], pos, pos + d)) HOWN2.out (b0 := ⟨#[]⟩) (z1 := (pos : Int)) (z2 := (pos : Int) + (d : Int)) rfl rfl (show ((pos + d : Nat) : Int) = _ by omega) hB HAL.out rfl (.tmp 69) (.tmp 79) 1 rfl rfl (by show Value.slice (some ⟨w'.heap.size, 0, none⟩) 1 1 = _; simp) ?_); intro v2 w2 h1 h2; (have H1 := Lib.hid h1; have HB2 := Lib.hid ((Below.drewN HBW.out _).grown h2 hB fun g e => (World.ownsRow.lt HOWN2.out g e).1); have c9 := HC.out w2 HB2.out; clear h1 h2))
            go_roundw
            case rel => exact ⟨k + 1, pos + d, true, by omega, by go_num, by go_num, rfl, _, HNX0.out, H1.out, HB2.out⟩
            case measure => simp [intOf] <;> omega
        | true =>
          have hne : ts ≠ [] := HSOME.out rfl
          have hmp : 0 < m := by rw [← HM.out]; exact List.length_pos_iff.2 hne
          obtain ⟨j, hjm⟩ : ∃ j, m - 1 = j := ⟨_, rfl⟩
          have hj : j < ts.length := by rw [HM.out]; omega
          have hlast : ts.getLastD ([], 0, 0) = ts[j] := by
            rw [List.getLastD_eq_getLast?, List.getLast?_eq_getElem?, HM.out, hjm, List.getElem?_eq_getElem hj]; rfl
          obtain ⟨g, ad2, c2, hg, rfl, hlo, hhi, e0, e1, e2, -, ef⟩ := HOWN.out.cells hj
          have hb3 := HBARE.out _ (List.getElem_mem hj)
          have HG := Lib.hid hg
          obtain ⟨t, ht⟩ : ∃ t, ts[j] = t := ⟨_, rfl⟩
          rw [ht] at e0 e1 e2 hlast hb3
          have HT := Lib.hid ht
          obtain ⟨t0, x1, x2⟩ := t
          dsimp only at e0 e1 e2 hb3
          have hb30 := hb3.1
          subst hb30
          have hx1 := hb3.2.1
          have hx2 := hb3.2.2
          have HLAST := Lib.hid hlast
          have HOWN2 := Lib.hid HOWN.out
          rw [HM.out] at HOWN2
          rw [HM.out]
          have HJ := Lib.hid hj
          have hm1 : (m : Int) - 1 = (j : Int) := by omega
          have wj : IntKind.i64.wrap ((m : Int) - 1) = (j : Int) := by rw [hm1]; exact IntWalk.i64_in _ (by omega)
          have hj0 : (0 : Int) ≤ (j : Int) := by omega
          have hjn : (j : Int) < (m : Int) := by omega
          have wa : IntKind.i64.wrap ((x2 : Int) - (x1 : Int)) = (x2 : Int) - (x1 : Int) := IntWalk.i64_in _ (by omega)
          have wb : IntKind.i64.wrap ((x2 : Int) - (x1 : Int) + (d : Int)) = (x2 : Int) - (x1 : Int) + (d : Int) := IntWalk.i64_in _ (by omega)
          clear hg ht hlast hb3 e0
          by_cases hfit : x2 - x1 + d ≤ 40
          · have hd40 : decide ((x2 : Int) - (x1 : Int) + (d : Int) ≤ 40) = true := decide_eq_true (by omega)
            have wc : IntKind.i64.wrap ((x2 : Int) + (d : Int)) = (x2 : Int) + (d : Int) := IntWalk.i64_in _ (by omega)
            have w9 : IntKind.i64.wrap ((pos : Int) + (s.size : Int)) = ((pos + d : Nat) : Int) := by rw [hd0]; exact (IntWalk.i64_in _ (by omega)).trans (by omega)
            have HNX0 := Lib.hid (show RWSt l us (k + 1) (pos + d) true (ts.set j ([], x1, x2 + d)) from by
              have := HNX.out
              unfold wdStep at this
              rw [HLAST.out, if_pos ⟨rfl, rfl, hfit⟩, HM.out, hjm] at this
              simpa using this)
            have c9 : ∀ q, ((wr.drewN q).setCell ⟨(ad2.add (j * 3)).block, (ad2.add (j * 3)).off + 2, none⟩ (.int .i64 ((x2 : Int) + (d : Int)))).cell? (ad.add k) = some (.string s) := fun q => HC.out _ ((Below.drewN HBW.out q).setCell (p := ⟨(ad2.add (j * 3)).block, (ad2.add (j * 3)).off + 2, none⟩) hlo _)
            clear HNX hfit hjm
            go_wp2_with fail
            refine HRU.out.mono ?_
            rintro e w' ⟨rfl, rfl⟩
            go_wp2
            go_quiet (fail)
            go_wp2
            (refine wp_region_tail 15 (by kernel_rfl) (by kernel_rfl) ?_; simp only [List.take_succ_cons, List.take_zero, List.drop_succ_cons, List.drop_zero]; repeat still_step)
            refine wpStill_nil ?_
            go_wp2
            go_roundw
            case rel => exact ⟨k + 1, pos + d, true, by omega, by go_num, by go_num, rfl, _, HNX0.out, (by
              have h1 := OwnWds.setAt (ts := ts) (u := .int .i64 ((x2 : Int) + (d : Int))) HG.out HOWN2.out HJ.out (i := 2) (by omega) (t := ([], x1, x2 + d)) (by rw [HT.out]; rfl)
              exact h1), (Below.drewN HBW.out _).setCell (p := ⟨(ad2.add (j * 3)).block, (ad2.add (j * 3)).off + 2, none⟩) hlo _⟩
            case measure => simp [intOf] <;> omega
          · have hd40 : decide ((x2 : Int) - (x1 : Int) + (d : Int) ≤ 40) = false := decide_eq_false (by omega)
            have HNX0 := Lib.hid (show RWSt l us (k + 1) (pos + d) true (ts ++ [([], pos, pos + d)]) from by have := HNX.out; unfold wdStep at this; rw [HLAST.out, if_neg (by rintro ⟨_, _, h⟩; exact hfit h)] at this; simpa using this)
            have hal : ts.length ≤ 1000000000 := by rw [HM.out]; omega
            have HAL := Lib.hid hal
            clear hal
            clear HNX
            have w9 : IntKind.i64.wrap ((pos : Int) + (s.size : Int)) = ((pos + d : Nat) : Int) := by rw [hd0]; exact (IntWalk.i64_in _ (by omega)).trans (by omega)
            clear hfit hjm
            go_wp2_with fail
            refine HRU.out.mono ?_
            rintro e w' ⟨rfl, rfl⟩
            go_wp2
            go_quiet (fail)
            go_wp2_with (at_builtin; go_must (refine wpList_pushWd (W := w'.drewN nq) (t := ([], pos, pos + d)) HOWN2.out (b0 := ⟨#[]⟩) (z1 := (pos : Int)) (z2 := (pos : Int) + (d : Int)) rfl rfl (show ((pos + d : Nat) : Int) = _ by omega) hB HAL.out rfl (.tmp 69) (.tmp 79) 1 rfl rfl (by show Value.slice (some ⟨w'.heap.size, 0, none⟩) 1 1 = _; simp) ?_); intro v2 w2 h1 h2; (have H1 := Lib.hid h1; have HB2 := Lib.hid ((Below.drewN HBW.out _).grown h2 hB fun g e => (World.ownsRow.lt HOWN2.out g e).1); have c9 := HC.out w2 HB2.out; clear h1 h2))
            go_roundw
            case rel => exact ⟨k + 1, pos + d, true, by omega, by go_num, by go_num, rfl, _, HNX0.out, H1.out, HB2.out⟩
            case measure => simp [intOf] <;> omega
      · -- a word begins: of its own class
        have HNX0 := Lib.hid (show RWSt l us (k + 1) (pos + d) false (ts ++ [([], pos, pos + d)]) from by have := HNX.out; unfold wdStep at this; simpa using this)
        have hal : ts.length ≤ 1000000000 := by rw [HM.out]; omega
        have HAL := Lib.hid hal
        clear hal
        obtain ⟨A2, c2, rfl⟩ := HOWN.out.shape
        rw [HM.out]
        have HOWN2 := Lib.hid HOWN.out
        rw [HM.out] at HOWN2
        clear HNX
        have w9 : IntKind.i64.wrap ((pos : Int) + (s.size : Int)) = ((pos + d : Nat) : Int) := by rw [hd0]; exact (IntWalk.i64_in _ (by omega)).trans (by omega)
        go_wp2_with fail
        refine HRU.out.mono ?_
        rintro e w' ⟨rfl, rfl⟩
        go_wp2
        go_quiet (fail)
        go_wp2_with (at_builtin; go_must (refine wpList_pushWd (W := w'.drewN nq) (t := ([], pos, pos + d)) HOWN2.out (b0 := ⟨#[]⟩) (z1 := (pos : Int)) (z2 := (pos : Int) + (d : Int)) rfl rfl (show ((pos + d : Nat) : Int) = _ by omega) hB HAL.out rfl (.tmp 69) (.tmp 79) 1 rfl rfl (by show Value.slice (some ⟨w'.heap.size, 0, none⟩) 1 1 = _; simp) ?_); intro v2 w2 h1 h2; (have H1 := Lib.hid h1; have HB2 := Lib.hid ((Below.drewN HBW.out _).grown h2 hB fun g e => (World.ownsRow.lt HOWN2.out g e).1); have c9 := HC.out w2 HB2.out; clear h1 h2))
        go_roundw
        case rel => exact ⟨k + 1, pos + d, false, by omega, by go_num, by go_num, rfl, _, HNX0.out, H1.out, HB2.out⟩
        case measure => simp [intOf] <;> omega
    · obtain rfl : k = n := by omega
      have HR3 := Lib.hid (hst.done (by rw [HN.out]; exact Nat.le_refl _))
      have HBARE := Lib.hid hst.bare
      have hpl := hst.posle
      have HPL := Lib.hid hpl
      have hm9 : ts.length ≤ 100000000 := by have := hst.few; omega
      obtain ⟨A2, c2, rfl⟩ := hown.shape
      have HR0 := Lib.hid (show RWRel2 w1 l ts 0 (.slice A2 ts.length c2) wr from ⟨by rw [mix_zero]; exact hown, hbw⟩)
      obtain ⟨m, hm⟩ : ∃ m, ts.length = m := ⟨_, rfl⟩
      have HM := Lib.hid hm
      rw [hm] at HR0 hm9
      rw [hm]
      clear hst hown hbw HR hm hpl hlt
      go_wp2
      go_loopw [10] (fun i W => ∃ k : Nat, k ≤ m ∧ i = .int .i64 (k : Int) ∧ Hid (RWRel2 w1 l ts k (.slice A2 m c2) W)) (fun i _ => m - (intOf i).toNat)
      case atStart => exact ⟨0, Nat.zero_le _, rfl, HR0.out⟩
      case round =>
        obtain ⟨q, hq, rfl, HR⟩ := hrel
        obtain ⟨hown, hbw⟩ := HR.out
        by_cases hlt : q < m
        · have hq2 : (q : Int) < m := by omega
          have hql : q < ts.length := by rw [HM.out]; exact hlt
          have hmix := mix_len l ts q (Nat.le_of_lt hql)
          have hmq := mix_get l ts hql
          have hset := mix_set l ts hql
          have hb3 := HBARE.out _ (List.getElem_mem hql)
          have hqm : q < (mixW l ts q).length := by rw [hmix]; exact hql
          have hmq2 : (mixW l ts q)[q]'hqm = ts[q] := by
            have := List.getElem?_eq_getElem hqm
            rw [hmq] at this
            exact (Option.some.inj this).symm
          obtain ⟨g, ad2, c3, hg, hsl, hlo, hhi, e0, e1, e2, ef, -⟩ := hown.cells hqm
          rw [hmq2] at e0 e1 e2
          have HQM := Lib.hid hqm
          have HMQ := Lib.hid hmq2
          clear hmq hmq2
          obtain ⟨t, ht⟩ : ∃ t, ts[q] = t := ⟨_, rfl⟩
          rw [ht] at hset hb3 e0 e1 e2 HMQ
          obtain ⟨t0, x1, x2⟩ := t
          dsimp only at hb3 e0 e1 e2
          have hb30 := hb3.1
          subst hb30
          have hx1 := hb3.2.1
          have hx2 := hb3.2.2
          rw [hmix, HM.out] at hsl
          injection hsl with hs1 hs2 hs3
          subst hs1; subst hs3
          have HG := Lib.hid hg
          have HSET := Lib.hid hset
          have HOWN := Lib.hid hown
          have HBW := Lib.hid hbw
          have hz := HPL.out
          have hLs : (ba l).size = l.length := ba_size l
          have s3 : x2 ≤ l.length := by omega
          have s0 : (0 : Int) ≤ (x1 : Int) := by omega
          have s1 : (x1 : Int) ≤ (x2 : Int) := by omega
          have s2 : (x2 : Int) ≤ ((ba l).size : Int) := by omega
          have HCUT := Lib.hid (show (ba l).extract x1 x2 = ba ((l.take x2).drop x1) from ba_cut l x1 x2)
          have HWA := Lib.hid (show foldP ((l.take x2).drop x1) = wordAt l (x1, x2) from rfl)
          have HF := Lib.hid (fun W => rfold_any ((l.take x2).drop x1) W (by have := HL.out; rw [List.length_drop, List.length_take]; omega))
          clear hset hmix ht hb3 hg hown hbw HR
          go_wp2
          go_region_law
            (first
              | (go_simp; go_at_call 148; rw [HCUT.out]; refine (HF.out _).mono ?_; rintro e w5 ⟨rfl, hbel⟩; (
                have HB5 := Lib.hid ((show Below wr.heap.size wr wr.drew from (Below.refl _ _).drew).trans hbel)
                have ef5 : w5.frozen? (ad2.add (q * 3)) = false := (HB5.out.frozen hhi).trans ef
                have e5 : w5.cell? (ad2.add (q * 3)) = some (.string (ba [])) := (HB5.out.cell hhi).trans e0
                clear hbel))
              | fail)
          all_goals
            go_wp2
            go_roundw
            case rel =>
              refine ⟨q + 1, by omega, by go_num, ?_, ?_⟩
              · have h1 := OwnWds.setAt (w := w5) (ts := mixW l ts q) (u := .string (ba (foldP ((l.take x2).drop x1)))) HG.out (HOWN.out.below HB5.out) HQM.out (i := 0) (by omega) (t := (wordAt l (x1, x2), x1, x2)) (by rw [HMQ.out]; rfl)
                rw [HSET.out] at h1
                have e9 : (⟨(ad2.add (q * 3)).block, (ad2.add (q * 3)).off + 0, none⟩ : Addr) = ad2.add (q * 3) := by
                  rw [← HG.out]; unfold Addr.add; split <;> rfl
                rw [e9] at h1
                exact h1
              · exact (HBW.out.trans (HB5.out.mono HBW.out.size)).setCell hlo _
            case measure => simp [intOf] <;> omega
        · obtain rfl : q = m := by omega
          have hfin := hown
          rw [← HM.out] at hfin
          have hfin2 := hfin.words (mix_all l ts HR3.out)
          have HFIN := Lib.hid hfin2
          have HBF := Lib.hid (HB.out.trans (hbw.mono hsz1))
          rw [HM.out] at HFIN
          clear hfin hfin2 hown hbw HR
          go_wp2
          go_ret
          exact ⟨_, rfl, HFIN.out.more hsz1, HBF.out⟩
end Go.Proofs.YtomcdhmcjndioaaGreatDoor
end
section
namespace Go.Proofs.YtomcdhmcjndioaaGreatDoor
open Go.RowKit
set_option linter.unusedVariables false

set_option maxRecDepth 100000 in
set_option maxHeartbeats 4000000 in
theorem rlist_any (l : List UInt8) (w : World) (hl : l.length ≤ 100000000) : Calls Tryz.prog 116 #[.string (ba l)] w (StrsBack w (listP l)) := by
  go_enter Tryz.func116, Tryz.ntmps116
  go_wp2_with fail
  refine (rwords_any l w hl).mono ?_
  rintro e w1 ⟨v, rfl, hv, hb⟩
  obtain ⟨A, c, rfl, hc1, hc2, hW⟩ := hv.wrds
  have HW := Lib.hid hW
  have HB := Lib.hid hb
  have hrl := ranges_len l
  have hll : (listP l).length = (rangesP l).length := by unfold listP; rw [List.length_map]
  obtain ⟨n, hn⟩ : ∃ n, (rangesP l).length = n := ⟨_, rfl⟩
  have hsz1 : w.heap.size ≤ w1.heap.size := hb.size
  rw [hn] at hW HW hrl hc1 hll
  have HN := Lib.hid hn
  have HLL := Lib.hid hll
  have hn9 : n ≤ 200000001 := by omega
  rw [hn]
  clear hW hb hv hn hll hrl
  go_wp2
  go_loopw [4, 5] (fun v i wr => ∃ k : Nat, k ≤ n ∧ i = .int .i64 (k : Int) ∧ Hid (ListRel w1 l k v wr)) (fun _ i _ => n - (intOf i).toNat)
  case atStart => exact ⟨0, Nat.zero_le _, rfl, OwnStrs.nil_ _ _, Below.refl _ _⟩
  case round =>
    obtain ⟨k, hk, rfl, HR⟩ := hrel
    have hsz := HR.out.2.size
    by_cases hlt : k < n
    · have hk2 : (k : Int) < n := by omega
      have hkl : k < (rangesP l).length := by rw [HN.out]; exact hlt
      obtain ⟨ad, rfl, hbl, c0, c1, c2⟩ := (HW.out.below HR.out.2).2 k hkl
      obtain ⟨r, hr⟩ : ∃ r, (rangesP l)[k] = r := ⟨_, rfl⟩
      rw [hr] at c0 c1 c2
      have HP := Lib.hid (show (listP l).take (k + 1) = (listP l).take k ++ [wordAt l r] by
        rw [List.take_succ_eq_append_getElem (by rw [HLL.out]; exact hlt)]
        unfold listP
        rw [List.getElem_map, hr])
      clear hr
      obtain ⟨t, ht⟩ : ∃ t, wordAt l r = t := ⟨_, rfl⟩
      rw [ht] at c0 HP
      clear ht
      have HOWN := Lib.hid HR.out.1
      have HAL := Lib.hid (show ((listP l).take k).length < 1099511627776 by rw [List.length_take]; omega)
      have HBEL := Lib.hid HR.out.2
      go_wp2_with (at_builtin; go_must (refine wpList_pushStr (s := t) HOWN.out hsz HAL.out rfl (.tmp 14) (.tmp 20) 32 1 rfl Tryz.underlying32 rfl rfl ?_); intro v2 w2 h1 h2 h3; (have H1 := Lib.hid h1; have H2 := Lib.hid h2; clear h1 h2 h3))
      go_roundw
      case rel =>
        refine ⟨k + 1, by omega, by go_num, ?_, HBEL.out.grown H2.out hsz fun g e => (HOWN.out.lt g e).1⟩
        rw [HP.out]
        exact H1.out
      case measure => simp [intOf] <;> omega
    · obtain rfl : k = n := by omega
      go_wp2
      go_ret
      refine ⟨_, rfl, ?_, HB.out.trans (HR.out.2.mono hsz1)⟩
      have := HR.out.1
      rw [List.take_of_length_le (by rw [HLL.out]; exact Nat.le_refl _)] at this
      exact this.more hsz1
end Go.Proofs.YtomcdhmcjndioaaGreatDoor
end
