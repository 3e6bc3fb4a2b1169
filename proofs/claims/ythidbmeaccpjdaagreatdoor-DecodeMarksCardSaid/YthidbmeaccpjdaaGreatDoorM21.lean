/- Layer 12: the contract of pair. Layer 12: what list keeps while it goes through the rows. -/
import Derived.Deep.RegionHeld3
import Derived.Test.YthidbmeaccpjdaaGreatDoorM16
import Derived.Test.YthidbmeaccpjdaaGreatDoorM10
import Derived.Test.YthidbmeaccpjdaaGreatDoorM11
import Derived.Test.YthidbmeaccpjdaaGreatDoorM18
namespace Go.Proofs.YthidbmeaccpjdaaGreatDoor
open Go.RowKit
set_option linter.unusedVariables false
set_option maxHeartbeats 4000000
theorem pairG_skip {name : List UInt8} {t : Tok} {r : List Tok} (h : t.kind ≠ 1 ∨ (cutV 61 t.text).2.2 = false) : pairG name (t :: r) = pairG (name ++ t.text) r := by
 conv => lhs; unfold pairG
 have h2 : (if t.kind = 1 then cutP 61 t.text else none) = none := by
  by_cases hk : t.kind = 1
  ·rw [if_pos hk]
   have h3 := h.resolve_left (fun h => h hk)
   unfold cutV at h3
   cases hc : cutP 61 t.text with
   | none => rfl
   | some q => rw [hc] at h3; cases h3
  ·rw [if_neg hk]
 rw [h2]
def restV (b : List UInt8) (r : List Tok) : List UInt8 := match b, r with
 | [], u :: _ => if u.kind = 2 then meanP u else joinP r
 | b, _ => b ++ joinP r
theorem pairG_hit {name a b : List UInt8} {t : Tok} {r : List Tok} (hk : t.kind = 1) (h : cutV 61 t.text = (a, b, true)) : pairG name (t :: r) = some (smallP (name ++ a), restV b r) := by
 conv => lhs; unfold pairG
 rw [if_pos hk]
 unfold cutV at h
 cases hc : cutP 61 t.text with
 | none => rw [hc] at h; injection h with _ h; injection h with _ h; cases h
 | some q =>
  obtain ⟨x, y⟩ := q
  rw [hc] at h
  injection h with h1 h2
  injection h2 with h2 h3
  subst h1; subst h2
  cases y <;> cases r <;> rfl
theorem restV_quoted {u : Tok} {r : List Tok} (h : u.kind = 2) : restV [] (u :: r) = meanP u := by
 show (if u.kind = 2 then meanP u else joinP (u :: r)) = _
 rw [if_pos h]
theorem restV_joined {b : List UInt8} {r : List Tok} (h : b ≠ [] ∨ r = [] ∨ ∃ u r', r = u :: r' ∧ u.kind ≠ 2) : restV b r = b ++ joinP r := by
 cases b with
 | cons x y => rfl
 | nil =>
  cases r with
  | nil => rfl
  | cons u r' =>
   rcases h with h | h | ⟨u', r'', h, h2⟩
   ·exact absurd rfl h
   ·cases h
   ·injection h with h3 h4
    subst h3
    show (if u.kind = 2 then meanP u else joinP (u :: r')) = _
    rw [if_neg h2]
    rfl
def PairPost (w : World) (ts : List Tok) (e : Ending) (w' : World) : Prop := e = .returned (.tuple #[.string (ba (pairP ts).1), .string (ba (pairP ts).2)]) ∧ Below w.heap.size w w'
theorem pair_fin {w w' : World} {ts : List Tok} {a b : List UInt8} {s t : ByteArray} (h : pairP ts = (a, b)) (hs : s = ba a) (ht : t = ba b) (hb : Below w.heap.size w w') : PairPost w ts (.returned (.tuple #[.string s, .string t])) w' := by
 unfold PairPost
 rw [h, hs, ht]
 exact ⟨rfl, hb⟩
structure PaRel (w : World) (ts : List Tok) (k : Nat) (a : List UInt8) (wr : World) : Prop where
 eq : pairG [] ts = pairG a (ts.drop k)
 len : a.length ≤ (joinP (ts.take k)).length
 bel : Below w.heap.size w wr
theorem join_drop_le (ts : List Tok) (k : Nat) : (joinP (ts.drop k)).length ≤ (joinP ts).length := by
 have h : joinP ts = joinP (ts.take k) ++ joinP (ts.drop k) := by
  unfold joinP
  rw [← List.flatMap_append, List.take_append_drop]
 rw [h, List.length_append]
 omega
theorem text_le {ts : List Tok} {k : Nat} (hk : k < ts.length) : ts[k].text.length ≤ (joinP ts).length := by
 have h1 := join_step ts k hk
 have h2 := join_le ts (k + 1)
 rw [h1, List.length_append] at h2
 omega
set_option maxRecDepth 100000 in
theorem pair_any (ts : List Tok) (A : Option Addr) (n c : Nat) (w : World) (hTk : Toks w w.heap.size A n ts) (hn : n ≤ 1000000000) (hnc : n ≤ c) (hcm : c ≤ maxLen) (hj : (joinP ts).length ≤ 500000000) (hT : Tabs w) :
  Calls Tryz.prog 199 #[.slice A n c] w (PairPost w ts) := by
 have HTK := Lib.hid hTk
 have HT := Lib.hid hT
 obtain rfl : n = ts.length := hTk.1
 obtain ⟨n, hn2⟩ : ∃ n, ts.length = n := ⟨_, rfl⟩
 have HN := Lib.hid hn2
 rw [hn2] at hn hnc ⊢
 unfold maxLen at hcm
 have HNC := Lib.hid (And.intro hnc hcm)
 clear hnc hcm
 have HJ := Lib.hid hj
 clear hTk hn2 hj hT
 go_enter Tryz.func199, Tryz.ntmps199
 go_wp2
 go_loopw [4, 12] (fun o i wr => ∃ (k : Nat) (a : List UInt8), k ≤ n ∧ i = .int .i64 (k : Int) ∧ o = .string (ba a) ∧ Hid (PaRel w ts k a wr)) (fun _ i _ => n - (intOf i).toNat)
 case atStart => exact ⟨0, [], Nat.zero_le _, rfl, rfl, Lib.hid ⟨rfl, by simp, Below.refl _ _⟩⟩
 case round =>
  obtain ⟨k, a, hk, rfl, rfl, HR⟩ := hrel
  have hsz := HR.out.bel.size
  by_cases hlt : k < n
  ·have hk2 : (k : Int) < n := by omega
   have hkl : k < ts.length := by rw [HN.out]; exact hlt
   obtain ⟨ad, rfl, hbl, c0, c1, c2⟩ := (HTK.out.below HR.out.bel).2 k hkl
   have HKS0 := Lib.hid (show ∀ W', Below w.heap.size w W' → W'.cell? (ad.add (k * 2)) = some (.int .i64 ts[k].kind) from fun W' hb => by
    obtain ⟨ad2, e2, _, d0, _, _⟩ := (HTK.out.below hb).2 k hkl
    injection e2 with e2
    subst e2
    exact d0)
   have heq := HR.out.eq
   rw [List.drop_eq_getElem_cons hkl] at heq
   have HEQ := Lib.hid heq
   have HST := Lib.hid (join_step ts k hkl)
   have htl := text_le hkl
   have hle := join_le ts (k + 1)
   have hal := HR.out.len
   have HBE := Lib.hid HR.out.bel
   clear heq c2
   obtain ⟨t, ht⟩ : ∃ t, ts[k] = t := ⟨_, rfl⟩
   rw [ht] at c0 c1 HEQ HST htl HKS0
   have htx : t.text.length ≤ 500000000 := by have := HJ.out; omega
   have hax : a.length + t.text.length ≤ 500000000 := by
    have h1 := HJ.out
    rw [HST.out, List.length_append] at hle
    omega
   have HAX := Lib.hid hax
   have HCUT := Lib.hid (cut_any 61 t.text (wr.alloc (.cells #[.int .i64 t.kind, .string (ba t.text)] 94)) (by omega) (HT.out.below (HBE.out.alloc hsz _)))
   have HCL := Lib.hid (cutV_len 61 t.text)
   have HAL := Lib.hid hal
   unfold CutPost at HCUT
   clear ht htl hle hal hax htx hkl HR
   obtain ⟨⟨b1, b2, f⟩, hcv⟩ : ∃ q, cutV 61 t.text = q := ⟨_, rfl⟩
   rw [hcv] at HCUT HCL
   have HCV := Lib.hid hcv
   clear hcv
   by_cases hgo : t.kind = 1 ∧ f = true
   ·obtain ⟨hk1, rfl⟩ := hgo
    have g1 : (t.kind != 1) = false := by simp [hk1]
    have HPP := Lib.hid (show pairP ts = (smallP (a ++ b1), restV b2 (ts.drop (k + 1))) by
     unfold pairP
     rw [HEQ.out, pairG_hit hk1 HCV.out]
     rfl)
    have hap := ba_append a b1
    have hlen : ¬ 9223372036854775807 < (ba a).size + (ba b1).size := by
     rw [ba_size, ba_size]
     have := HAX.out
     have h2 : b1.length ≤ t.text.length := HCL.out.1
     omega
    have hsl : (a ++ b1).length ≤ 1000000000 := by
     have := HAX.out
     have h2 : b1.length ≤ t.text.length := HCL.out.1
     rw [List.length_append]
     omega
    obtain ⟨nm, hnm⟩ : ∃ x, a ++ b1 = x := ⟨_, rfl⟩
    rw [hnm] at hap HPP hsl
    have HSL := Lib.hid hsl
    clear hk1 hnm hsl
    by_cases hq : b2 = [] ∧ ∃ h : k + 1 < n, (ts[k + 1]'(by rw [HN.out]; exact h)).kind = 2
    ·obtain ⟨rfl, hk3, hq2⟩ := hq
     have hk1n : k + 1 < ts.length := by rw [HN.out]; exact hk3
     have HRV := Lib.hid (show restV [] (ts.drop (k + 1)) = meanP ts[k + 1] by rw [List.drop_eq_getElem_cons hk1n, restV_quoted hq2])
     have HKC := Lib.hid (fun (W' : World) (hb : Below w.heap.size w W') => (HTK.out.below hb).2 (k + 1) hk1n)
     have hul := text_le hk1n
     obtain ⟨u, hu⟩ : ∃ u, ts[k + 1] = u := ⟨_, rfl⟩
     rw [hu] at HRV hul hq2
     have HKE := Lib.hid (show ∀ W', Below w.heap.size w W' → W'.cell? (ad.add ((k + 1) * 2)) = some (.int .i64 u.kind) ∧ W'.cell? ⟨(ad.add ((k + 1) * 2)).block, (ad.add ((k + 1) * 2)).off + 1, none⟩ = some (.string (ba u.text)) from fun W' hb => by
      obtain ⟨ad2, e2, _, d0, d1, _⟩ := HKC.out W' hb
      injection e2 with e2
      subst e2
      rw [hu] at d0 d1
      exact ⟨d0, d1⟩)
     have hun : u.text.length ≤ 1000000000 := by have := HJ.out; omega
     have HUN := Lib.hid hun
     have g4 : (u.kind == 2) = true := by simp [hq2]
     have g5 : (ba ([] : List UInt8)).toList.isEmpty = true := by rw [ba_toList]; rfl
     have hkk : (k : Int) + 1 < (n : Int) := by omega
     clear hu hul hun hq2 HKC hk1n
     go_wp2_with fail
     refine HCUT.out.mono ?_
     rintro e w2 ⟨rfl, nn, rfl⟩
     have HB1 := Lib.hid (below_drewN (HBE.out.alloc hsz (.cells #[.int .i64 t.kind, .string (ba t.text)] 94)) nn)
     obtain ⟨W, hW⟩ : ∃ W, (wr.alloc (.cells #[.int .i64 t.kind, .string (ba t.text)] 94)).drewN nn = W := ⟨_, rfl⟩
     rw [hW] at HB1
     have hWc0 : W.cell? ⟨wr.heap.size, 0, none⟩ = some (.int .i64 t.kind) := by rw [← hW]; simp
     have hWc1 : W.cell? ⟨wr.heap.size, 1, none⟩ = some (.string (ba t.text)) := by rw [← hW]; simp
     have hWe := HKE.out W HB1.out
     obtain ⟨hWe0, hWe1⟩ := hWe
     rw [hW]
     clear hW
     go_wp2
     have hw1 : IntKind.i64.wrap ((k : Int) + 1) = (k : Int) + 1 := IntWalk.i64_in _ (by omega)
     have ht1 : ((k : Int) + 1).toNat = k + 1 := by omega
     have hw2 : (0 : Int) ≤ (k : Int) + 1 := by omega
     go_region_held3 (fun w' => w'.cell? (ad.add ((k + 1) * 2)) = some (.int .i64 u.kind) ∧ w'.cell? ⟨(ad.add ((k + 1) * 2)).block, (ad.add ((k + 1) * 2)).off + 1, none⟩ = some (.string (ba u.text)))
      (first
       | exact HKE.out _ (HB1.out.drew)
       | exact HKE.out _ HV1.out
       | exact HKE.out _ HV2.out)
      (first
       | (go_simp; go_at_call 90; refine (csmall_any nm W.drew HSL.out).mono ?_; rintro e v1 ⟨rfl, hb⟩; (
         have HV1 := Lib.hid (show Below w.heap.size w v1 from (HB1.out.drew).trans (hb.mono HB1.out.size))
         clear hb))
       | (go_simp; go_at_call 244; refine (tvalue_any u v1 HUN.out).mono ?_; rintro e v2 ⟨rfl, hb⟩; (
         have HV2 := Lib.hid (show Below w.heap.size w v2 from HV1.out.trans (hb.mono HV1.out.size))
         clear hb)))
     all_goals
      go_wp2
      go_ret2
      exact pair_fin (HPP.out.trans (by rw [HRV.out])) rfl rfl HV2.out
    ·have HRV := Lib.hid (show restV b2 (ts.drop (k + 1)) = b2 ++ joinP (ts.drop (k + 1)) by
      refine restV_joined ?_
      by_cases hb2 : b2 = []
      ·refine .inr ?_
       by_cases hk3 : k + 1 < n
       ·have hk1n : k + 1 < ts.length := by rw [HN.out]; exact hk3
        exact .inr ⟨ts[k + 1], _, List.drop_eq_getElem_cons hk1n, fun h => hq ⟨hb2, hk3, h⟩⟩
       ·exact .inl (List.drop_of_length_le (by rw [HN.out]; omega))
      ·exact .inl hb2)
     have hway : (ba b2).toList.isEmpty = false ∨ ((ba b2).toList.isEmpty = true ∧ ¬ (k : Int) + 1 < (n : Int)) ∨ ((ba b2).toList.isEmpty = true ∧ (k : Int) + 1 < (n : Int) ∧ ∃ v : Int, (v == 2) = false ∧ ∀ W', Below w.heap.size w W' → W'.cell? (ad.add ((k + 1) * 2)) = some (.int .i64 v)) := by
      rw [ba_toList]
      cases b2 with
      | cons x y => exact .inl rfl
      | nil =>
       by_cases hk3 : k + 1 < n
       ·have hk1n : k + 1 < ts.length := by rw [HN.out]; exact hk3
        refine .inr (.inr ⟨rfl, by omega, ts[k + 1].kind, ?_, fun W' hb => ?_⟩)
        ·have : ¬ ts[k + 1].kind = 2 := fun h => hq ⟨rfl, hk3, h⟩
         simpa using this
        ·obtain ⟨ad2, e2, _, d0, _, _⟩ := (HTK.out.below hb).2 (k + 1) hk1n
         injection e2 with e2
         subst e2
         exact d0
       ·exact .inr (.inl ⟨rfl, by omega⟩)
     have HTD := Lib.hid (show ∀ (W' : World), Below w.heap.size w W' → Toks W' w.heap.size (some (ad.add ((k + 1) * 2))) (n - (k + 1)) (ts.drop (k + 1)) from fun W' hb => by
      have h := (HTK.out.below hb).cutB (k + 1) (by rw [HN.out]; omega)
      rw [HN.out] at h
      exact h)
     have hjl := join_drop_le ts (k + 1)
     have HJD := Lib.hid (show (joinP (ts.drop (k + 1))).length ≤ 500000000 by have := HJ.out; omega)
     obtain ⟨td, htd⟩ : ∃ x, ts.drop (k + 1) = x := ⟨_, rfl⟩
     have HTDN := Lib.hid (show td.length = n - (k + 1) by rw [← htd, List.length_drop, HN.out])
     rw [htd] at HRV HJD HPP
     simp only [htd] at HTD
     have hap2 := ba_append b2 (joinP td)
     have hlen2 : ¬ 9223372036854775807 < (ba b2).size + (ba (joinP td)).size := by
      rw [ba_size, ba_size]
      have h1 := HJD.out
      have h2 : b2.length ≤ t.text.length := HCL.out.2
      have h3 := HAX.out
      omega
     have hcap : (c = k + 1 ∧ td = []) ∨ ¬ c = k + 1 := by
      by_cases h : c = k + 1
      ·refine .inl ⟨h, List.eq_nil_of_length_eq_zero ?_⟩
       have := HNC.out.1
       rw [HTDN.out]
       omega
      ·exact .inr h
     have hn9 : (n : Int) ≤ 1000000000 := by omega
     have hkn : (k : Int) + 1 ≤ (n : Int) := by omega
     have hkn2 : k + 1 ≤ n := by omega
     clear hq hjl htd
     rcases hcap with ⟨hce, htd0⟩ | hce
     ·subst hce
      subst htd0
      have HZ0 := Lib.hid (show n - (k + 1) = ([] : List Tok).length by have := HNC.out.1; simp; omega)
      rcases hway with g6 | ⟨g6, g7⟩ | ⟨g6, g7, v, g8, hcv8⟩
      all_goals
       go_wp2_with fail
       refine HCUT.out.mono ?_
       rintro e w2 ⟨rfl, nn, rfl⟩
       have HB1 := Lib.hid (below_drewN (HBE.out.alloc hsz (.cells #[.int .i64 t.kind, .string (ba t.text)] 94)) nn)
       obtain ⟨W, hW⟩ : ∃ W, (wr.alloc (.cells #[.int .i64 t.kind, .string (ba t.text)] 94)).drewN nn = W := ⟨_, rfl⟩
       rw [hW] at HB1
       have hWc0 : W.cell? ⟨wr.heap.size, 0, none⟩ = some (.int .i64 t.kind) := by rw [← hW]; simp
       have hWc1 : W.cell? ⟨wr.heap.size, 1, none⟩ = some (.string (ba t.text)) := by rw [← hW]; simp
       first | (have hWe := hcv8 W HB1.out; clear hcv8) | skip
       rw [hW]
       clear hW
       go_wp2
       clear hWc0 hWc1
       have hw1 : IntKind.i64.wrap ((k : Int) + 1) = (k : Int) + 1 := IntWalk.i64_in _ (by omega)
       have ht1 : ((k : Int) + 1).toNat = k + 1 := by omega
       have hw2 : (0 : Int) ≤ (k : Int) + 1 := by omega
       go_region_held3 (fun w' => w'.cell? (ad.add (k * 2)) = some (.int .i64 t.kind))
        (first
         | exact HKS0.out _ (HB1.out.drew)
         | exact HKS0.out _ HV1.out
         | exact HKS0.out _ HV2.out)
        (first
         | (go_simp; go_at_call 90; refine (csmall_any nm W.drew HSL.out).mono ?_; rintro e v1 ⟨rfl, hb⟩; (
           have HV1 := Lib.hid (show Below w.heap.size w v1 from (HB1.out.drew).trans (hb.mono HB1.out.size))
           clear hb))
         | (go_simp; go_at_call 152; refine (tjoin_any [] _ _ _ v1 ⟨HZ0.out, fun k hk => by simp at hk⟩ (by omega) (by simp [joinP])).mono ?_; rintro e v2 ⟨rfl, hb⟩; (
           have HV2 := Lib.hid (show Below w.heap.size w v2 from HV1.out.trans (hb.mono HV1.out.size))
           clear hb)))
       all_goals
        go_wp2
        go_ret2
        exact pair_fin (HPP.out.trans (by rw [HRV.out])) rfl rfl HV2.out
     ·have HTN := Lib.hid (show n - (k + 1) ≤ 1000000000 by omega)
      have HTJ := Lib.hid (show (joinP td).length ≤ 1000000000 by have := HJD.out; omega)
      rcases hway with g6 | ⟨g6, g7⟩ | ⟨g6, g7, v, g8, hcv8⟩
      all_goals
       go_wp2_with fail
       refine HCUT.out.mono ?_
       rintro e w2 ⟨rfl, nn, rfl⟩
       have HB1 := Lib.hid (below_drewN (HBE.out.alloc hsz (.cells #[.int .i64 t.kind, .string (ba t.text)] 94)) nn)
       obtain ⟨W, hW⟩ : ∃ W, (wr.alloc (.cells #[.int .i64 t.kind, .string (ba t.text)] 94)).drewN nn = W := ⟨_, rfl⟩
       rw [hW] at HB1
       have hWc0 : W.cell? ⟨wr.heap.size, 0, none⟩ = some (.int .i64 t.kind) := by rw [← hW]; simp
       have hWc1 : W.cell? ⟨wr.heap.size, 1, none⟩ = some (.string (ba t.text)) := by rw [← hW]; simp
       first | (have hWe := hcv8 W HB1.out; clear hcv8) | skip
       rw [hW]
       clear hW
       go_wp2
       clear hWc0 hWc1
       have hw1 : IntKind.i64.wrap ((k : Int) + 1) = (k : Int) + 1 := IntWalk.i64_in _ (by omega)
       have ht1 : ((k : Int) + 1).toNat = k + 1 := by omega
       have hw2 : (0 : Int) ≤ (k : Int) + 1 := by omega
       go_region_held3 (fun w' => w'.cell? (ad.add (k * 2)) = some (.int .i64 t.kind))
        (first
         | exact HKS0.out _ (HB1.out.drew)
         | exact HKS0.out _ HV1.out
         | exact HKS0.out _ HV2.out)
        (first
         | (go_simp; go_at_call 90; refine (csmall_any nm W.drew HSL.out).mono ?_; rintro e v1 ⟨rfl, hb⟩; (
           have HV1 := Lib.hid (show Below w.heap.size w v1 from (HB1.out.drew).trans (hb.mono HB1.out.size))
           clear hb))
         | (go_simp; go_at_call 152; refine (tjoin_any td _ _ _ v1 ((HTD.out v1 HV1.out).more HV1.out.size) HTN.out HTJ.out).mono ?_; rintro e v2 ⟨rfl, hb⟩; (
           have HV2 := Lib.hid (show Below w.heap.size w v2 from HV1.out.trans (hb.mono HV1.out.size))
           clear hb)))
       all_goals
        go_wp2
        go_ret2
        exact pair_fin (HPP.out.trans (by rw [HRV.out])) rfl rfl HV2.out
   ·have HE := Lib.hid (show pairG [] ts = pairG (a ++ t.text) (ts.drop (k + 1)) by
     rw [HEQ.out, pairG_skip]
     by_cases h : t.kind = 1
     ·refine .inr ?_
      rw [HCV.out]
      cases f with
      | true => exact absurd ⟨h, rfl⟩ hgo
      | false => rfl
     ·exact .inl h)
    have hap := ba_append a t.text
    have hlen : ¬ 9223372036854775807 < (ba a).size + (ba t.text).size := by
     rw [ba_size, ba_size]
     have := HAX.out
     omega
    have HFIN := Lib.hid (show ∀ W', Below w.heap.size w W' → PaRel w ts (k + 1) (a ++ t.text) W' from fun W' hb => ⟨HE.out, by rw [HST.out, List.length_append, List.length_append]; have := HAL.out; omega, hb⟩)
    by_cases hk1 : t.kind = 1
    ·have g1 : (t.kind != 1) = false := by simp [hk1]
     have hf : f = false := by
      cases f with
      | true => exact absurd ⟨hk1, rfl⟩ hgo
      | false => rfl
     subst hf
     clear hgo hk1
     go_wp2_with fail
     refine HCUT.out.mono ?_
     rintro e w2 ⟨rfl, nn, rfl⟩
     go_wp2
     go_roundw
     case rel => exact ⟨k + 1, a ++ t.text, by omega, by go_num, rfl, Lib.hid (HFIN.out _ (below_drewN (HBE.out.alloc hsz _) nn))⟩
     case measure => simp [intOf] <;> omega
    ·have g1 : (t.kind != 1) = true := by simpa using hk1
     clear hgo hk1
     go_wp2_with fail
     refine HCUT.out.mono ?_
     rintro e w2 ⟨rfl, nn, rfl⟩
     go_wp2
     go_roundw
     case rel => exact ⟨k + 1, a ++ t.text, by omega, by go_num, rfl, Lib.hid (HFIN.out _ (below_drewN (HBE.out.alloc hsz _) nn))⟩
     case measure => simp [intOf] <;> omega
  ·obtain rfl : k = n := by omega
   have HF := Lib.hid (show pairP ts = ([], []) by
    unfold pairP
    rw [HR.out.eq, List.drop_of_length_le (by rw [HN.out]; exact Nat.le_refl _)]
    rfl)
   go_wp2
   go_ret2
   exact pair_fin HF.out rfl rfl HR.out.bel
end Go.Proofs.YthidbmeaccpjdaaGreatDoor
section
namespace Go.Proofs.YthidbmeaccpjdaaGreatDoor
open Go.RowKit
set_option linter.unusedVariables false
def seenF (ones : List One1) (x : List UInt8) : Option Value := if x ∈ namesP ones then some (.bool true) else none
theorem parF_snoc (ones : List One1) (o : One1) (y : Spot3) : parF (ones ++ [o]) y = match parF ones y with
  | some v => some v
  | none => if y = o.at_ then some (.string (ba o.value)) else none := by
 unfold parF
 rw [List.find?_append]
 cases h : ones.find? (fun p => decide (p.at_ = y)) with
 | some p => rfl
 | none =>
  show (([o].find? fun p => decide (p.at_ = y)).map fun p => Value.string (ba p.value)) = _
  by_cases e : o.at_ = y
  ·have e2 : y = o.at_ := e.symm
   simp [e]
  ·have e2 : ¬ y = o.at_ := fun h => e h.symm
   simp [e, e2]
theorem firstP_snoc (ones : List One1) (o : One1) (n : List UInt8) (s : Int) : firstP (ones ++ [o]) n s = match firstP ones n s with
  | some v => some v
  | none => if o.at_.name = n ∧ o.at_.section_ = s then some o else none := by
 unfold firstP
 rw [List.find?_append]
 cases h : ones.find? (fun x => decide (x.at_.name = n) && decide (x.at_.section_ = s)) with
 | some p => rfl
 | none =>
  show ([o].find? fun x => decide (x.at_.name = n) && decide (x.at_.section_ = s)) = _
  by_cases e : o.at_.name = n ∧ o.at_.section_ = s
  ·simp [e]
  ·rw [if_neg e]
   rw [List.find?_cons]
   have : (decide (o.at_.name = n) && decide (o.at_.section_ = s)) = false := by
    rw [Bool.eq_false_iff]
    intro h2
    rw [Bool.and_eq_true, decide_eq_true_iff, decide_eq_true_iff] at h2
    exact e h2
   rw [this]
   rfl
theorem firF_snoc (ones : List One1) (o : One1) (y : Spot3) : firF (ones ++ [o]) y = match firF ones y with
  | some v => some v
  | none => if y = ⟨o.at_.name, o.at_.section_, false⟩ ∧ 0 ≤ o.at_.section_ then some (Value.bool o.at_.wide) else none := by
 unfold firF
 by_cases h : y.wide = false ∧ 0 ≤ y.section_
 ·rw [if_pos h, if_pos h, firstP_snoc]
  cases hf : firstP ones y.name y.section_ with
  | some p => rfl
  | none =>
   show ((if o.at_.name = y.name ∧ o.at_.section_ = y.section_ then some o else none).map fun o => Value.bool o.at_.wide) = _
   by_cases e : o.at_.name = y.name ∧ o.at_.section_ = y.section_
   ·have e2 : y = ⟨o.at_.name, o.at_.section_, false⟩ ∧ 0 ≤ o.at_.section_ := by
     refine ⟨?_, by rw [e.2]; exact h.2⟩
     cases y with
     | mk a b c =>
      obtain ⟨e1, e2⟩ := e
      have e3 : c = false := h.1
      subst e3
      show (⟨a, b, false⟩ : Spot3) = _
      rw [e1, e2]
    rw [if_pos e]
    simp only [Option.map_none]
    rw [if_pos e2]
    rfl
   ·have e2 : ¬ (y = ⟨o.at_.name, o.at_.section_, false⟩ ∧ 0 ≤ o.at_.section_) := fun h2 => e (by rw [h2.1]; exact ⟨rfl, rfl⟩)
    rw [if_neg e]
    simp only [Option.map_none]
    rw [if_neg e2]
 ·rw [if_neg h, if_neg h]
  have e2 : ¬ (y = ⟨o.at_.name, o.at_.section_, false⟩ ∧ 0 ≤ o.at_.section_) := fun h2 => h (by rw [h2.1]; exact ⟨rfl, h2.2⟩)
  show none = (if y = ⟨o.at_.name, o.at_.section_, false⟩ ∧ 0 ≤ o.at_.section_ then some (Value.bool o.at_.wide) else none)
  rw [if_neg e2]
theorem namesP_snoc (ones : List One1) (o : One1) : namesP (ones ++ [o]) = if o.at_.name ∈ namesP ones then namesP ones else namesP ones ++ [o.at_.name] := by
 unfold namesP
 rw [List.foldl_append]
 rfl
theorem onesP_snoc (rs : List (List Tok)) (r : List Tok) : onesP (rs ++ [r]) = onesP rs ++ (if (pairP r).1 = [] then [] else [⟨whereP (pairP r).1, (pairP r).2⟩]) := by
 unfold onesP
 rw [List.map_append, List.filterMap_append]
 congr 1
 by_cases h : (pairP r).1 = []
 ·simp [h]
 ·simp [h]
section
variable {w w' : World} {ones : List One1} {o : One1} {b c : Nat}
theorem par_keep (h : MapL spotK w b (parF ones) c) {v : Value} (hv : parF ones o.at_ = some v) : MapL spotK w b (parF (ones ++ [o])) c := by
 refine h.congr fun y _ => ?_
 rw [parF_snoc]
 cases hy : parF ones y with
 | some u => rfl
 | none =>
  have : ¬ y = o.at_ := fun e => by rw [e, hv] at hy; cases hy
  show (if y = o.at_ then _ else none) = none
  rw [if_neg this]
theorem par_put {c' : Nat} (h : MapL spotK w b (updK (parF ones) o.at_ (.string (ba o.value))) c') (hv : parF ones o.at_ = none) : MapL spotK w b (parF (ones ++ [o])) c' := by
 refine h.congr fun y _ => ?_
 rw [parF_snoc]
 by_cases e : y = o.at_
 ·subst e
  rw [hv, updK_same]
  simp
 ·rw [updK_other _ _ e]
  cases hy : parF ones y with
  | some u => rfl
  | none =>
   show (if y = o.at_ then _ else none) = none
   rw [if_neg e]
theorem fir_skip (h : MapL spotK w b (firF ones) c) (hs : ¬ 0 ≤ o.at_.section_) : MapL spotK w b (firF (ones ++ [o])) c := by
 refine h.congr fun y _ => ?_
 rw [firF_snoc]
 cases hy : firF ones y with
 | some u => rfl
 | none =>
  show (if y = ⟨o.at_.name, o.at_.section_, false⟩ ∧ 0 ≤ o.at_.section_ then _ else none) = none
  rw [if_neg fun h2 => hs h2.2]
theorem fir_keep (h : MapL spotK w b (firF ones) c) {v : Value} (hv : firF ones ⟨o.at_.name, o.at_.section_, false⟩ = some v) : MapL spotK w b (firF (ones ++ [o])) c := by
 refine h.congr fun y _ => ?_
 rw [firF_snoc]
 cases hy : firF ones y with
 | some u => rfl
 | none =>
  show (if y = ⟨o.at_.name, o.at_.section_, false⟩ ∧ 0 ≤ o.at_.section_ then _ else none) = none
  rw [if_neg fun h2 => by rw [h2.1, hv] at hy; cases hy]
theorem fir_put {c' : Nat} (h : MapL spotK w b (updK (firF ones) ⟨o.at_.name, o.at_.section_, false⟩ (.bool o.at_.wide)) c') (hv : firF ones ⟨o.at_.name, o.at_.section_, false⟩ = none) (hs : 0 ≤ o.at_.section_) : MapL spotK w b (firF (ones ++ [o])) c' := by
 refine h.congr fun y _ => ?_
 rw [firF_snoc]
 by_cases e : y = ⟨o.at_.name, o.at_.section_, false⟩
 ·subst e
  rw [hv, updK_same]
  simp [hs]
 ·rw [updK_other _ _ e]
  cases hy : firF ones y with
  | some u => rfl
  | none =>
   show (if y = ⟨o.at_.name, o.at_.section_, false⟩ ∧ 0 ≤ o.at_.section_ then _ else none) = none
   rw [if_neg fun h2 => e h2.1]
theorem seen_keep (h : MapL strK w b (seenF ones) c) (hv : o.at_.name ∈ namesP ones) : MapL strK w b (seenF (ones ++ [o])) c := by
 refine h.congr fun y _ => ?_
 unfold seenF
 rw [namesP_snoc, if_pos hv]
theorem seen_put {c' : Nat} (h : MapL strK w b (updK (seenF ones) o.at_.name (.bool true)) c') (hv : ¬ o.at_.name ∈ namesP ones) : MapL strK w b (seenF (ones ++ [o])) c' := by
 refine h.congr fun y _ => ?_
 by_cases e : y = o.at_.name
 ·subst e
  rw [updK_same]
  unfold seenF
  rw [namesP_snoc, if_neg hv, if_pos (by simp)]
 ·rw [updK_other _ _ e]
  unfold seenF
  rw [namesP_snoc, if_neg hv]
  by_cases h2 : y ∈ namesP ones
  ·rw [if_pos h2, if_pos (by simp [h2])]
  ·rw [if_neg h2, if_neg (by simp [h2, e])]
end
end Go.Proofs.YthidbmeaccpjdaaGreatDoor
end
