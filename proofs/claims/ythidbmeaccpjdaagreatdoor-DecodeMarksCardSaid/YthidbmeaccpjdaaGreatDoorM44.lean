/- Layer 14: Parse's closure: its contract at one depth (under way). -/
import Derived.Test.YthidbmeaccpjdaaGreatDoorM43
namespace Go.Proofs.YthidbmeaccpjdaaGreatDoor
open Go.RowKit
set_option linter.unusedVariables false
set_option maxHeartbeats 4000000
def OpenPost (N : Nat) (s : List UInt8) (st : List Prt × Nat) (ro : Option Nat) (W : World) (e : Ending) (W' : World) : Prop := ∃ v ro', e = .returned v ∧ POut N s st.1 st.2 ro' W' ∧ PKeep N ro ro' W W'
def OpenC (w : World) (s : List UInt8) (f : Nat) : Prop := ∀ (W : World) (ps : List Prt) (n : Nat) (ro : Option Nat) (p : Prt) (A : Option Addr) (m c b t : Nat), Below w.heap.size w W → POut w.heap.size s ps n ro W → PrtFit s p b t → PDeep w.heap.size ro W (p, A, m, c) → PartOk (rawP p (A, m, c)) → p.depth + f = 8 → ps.length + 1 ≤ n → n ≤ 64 →
 Calls Tryz.prog 33 #[prtV p A m c, .pointer (some ⟨w.heap.size + 1, 0, none⟩), .pointer (some ⟨w.heap.size, 0, none⟩), .pointer (some ⟨w.heap.size + 2, 0, none⟩), .pointer (some ⟨w.heap.size + 3, 0, none⟩)] W (OpenPost w.heap.size s (openM s (f + 1) (ps, n) p) ro W)
theorem OwnParts.sl {W : World} {B : Nat} {v : Value} {ts : List RawP} (h : OwnParts W B v ts) : ∃ A c, v = .slice A ts.length c := by
 obtain ⟨A, c, rfl, _⟩ := h.reads
 exact ⟨A, c, rfl⟩
theorem parts_one (w : World) (p : Prt) (u : SliP) (h : PartOk (rawP p u)) : Parts (w.alloc (.cells #[.int .i64 p.up, .int .i64 p.depth, .int .i64 p.start, .int .i64 p.body, .int .i64 p.stop, .string (ba p.typ.kind), .string (ba p.typ.sub), .slice u.1 u.2.1 u.2.2, .string (ba p.code)] 26)) (w.heap.size + 1) (some ⟨w.heap.size, 0, none⟩) 1 [rawP p u] := by
 refine ⟨rfl, fun k hk => ?_⟩
 obtain rfl : k = 0 := by simpa using hk
 have h0 := (MapKept.heap_alloc w (.cells #[.int .i64 p.up, .int .i64 p.depth, .int .i64 p.start, .int .i64 p.body, .int .i64 p.stop, .string (ba p.typ.kind), .string (ba p.typ.sub), .slice u.1 u.2.1 u.2.2, .string (ba p.code)] 26)).1
 have e0 : (Addr.add ⟨w.heap.size, 0, none⟩ (0 * 9)) = ⟨w.heap.size, 0, none⟩ := by unfold Addr.add; simp
 refine ⟨_, rfl, ?_⟩
 rw [e0]
 exact ⟨Nat.lt_succ_self _, cells_at h0 0 rfl, cells_at h0 1 rfl, cells_at h0 2 rfl, cells_at h0 3 rfl, cells_at h0 4 rfl, cells_at h0 5 rfl, cells_at h0 6 rfl, cells_at h0 7 rfl, cells_at h0 8 rfl, h⟩
theorem Prs.keepB {W W' : World} {B n : Nat} {A : Option Addr} {ts : List (Int × Int)} (h : Prs W B A n ts) (hk : ∀ ad, A = some ad → ad.block < B → W'.heap[ad.block]? = W.heap[ad.block]?) : Prs W' B A n ts := by
 refine ⟨h.1, fun k hkl => ?_⟩
 obtain ⟨ad, e, h1, c0, c1, h5⟩ := h.2 k hkl
 have hb := hk ad e (by rw [add_block] at h1; exact h1)
 have key : ∀ q : Addr, q.block = ad.block → W'.cell? q = W.cell? q := fun q hq => World.cell?_of_block (by rw [hq]; exact hb)
 exact ⟨ad, e, h1, (key _ (add_block _ _)).trans c0, (key ⟨(ad.add (k * 2)).block, _, none⟩ (add_block _ _)).trans c1, h5⟩
structure PLp (N : Nat) (s : List UInt8) (f : Nat) (up d : Int) (dg : Bool) (L : List (Nat × Nat)) (T : List Prt × Nat) (R6 : Option Nat) (W4 : World) (j : Nat) (W : World) : Prop where
 ex : ∃ (st : List Prt × Nat) (ro : Option Nat), POut N s st.1 st.2 ro W ∧ PKeep N R6 ro W4 W ∧ openL s f up d dg (L.drop j) st = T ∧ st.1.length + (L.length - j) ≤ st.2 ∧ st.2 ≤ 64
theorem OwnPars.isCells {W : World} {B n c : Nat} {A : Option Addr} {ts : List (List UInt8 × List UInt8)} (h : OwnPars W B (.slice A n c) ts) {ad : Addr} (e : A = some ad) : B ≤ ad.block ∧ ad.block < W.heap.size := by
 subst e
 rcases h.row.2 with ⟨e, _⟩ | ⟨g, cap, cur, e, hb, hg, _⟩
 ·cases e
 ·injection e with e
  injection e with e
  subst e
  exact ⟨hb, heap_lt hg⟩
theorem read_ok {s : List UInt8} (hs : s.length ≤ 10000000) {up depth : Int} {i j : Nat} (hij : i ≤ j) (hj : j ≤ s.length) (digest : Bool) (hu : -9223372036854775808 ≤ up ∧ up ≤ 9223372036854775807) (hd : -9223372036854775808 ≤ depth ∧ depth ≤ 9223372036854775807) (v : SliP) : PartOk (rawP (readPt s up depth i j digest) v) := by
 have hok := (headP_ok ((s.take j).drop i)).2.2
 rw [List.length_drop, List.length_take] at hok
 refine ⟨hu, hd, ⟨?_, ?_⟩, ⟨?_, ?_⟩, ⟨?_, ?_⟩⟩
 ·show (-9223372036854775808 : Int) ≤ (i : Nat); omega
 ·show ((i : Nat) : Int) ≤ 9223372036854775807; omega
 ·show (-9223372036854775808 : Int) ≤ ((i + (headP ((s.take j).drop i)).2 : Nat) : Int); omega
 ·show ((i + (headP ((s.take j).drop i)).2 : Nat) : Int) ≤ 9223372036854775807; omega
 ·show (-9223372036854775808 : Int) ≤ (j : Nat); omega
 ·show ((j : Nat) : Int) ≤ 9223372036854775807; omega
theorem round_call {w X : World} {s : List UInt8} {f g j : Nat} {up d : Int} {L : List (Nat × Nat)} {st : List Prt × Nat} {r : Option Nat} {B : Nat} {kk : Nat × Nat} {dg : Bool} {A : Option Addr} {m c : Nat} (hs : s.length ≤ 10000000) (hf : f = g + 1) (ih : OpenC w s g) (hb : Below w.heap.size w X) (hP : POut w.heap.size s st.1 st.2 r X)
  (h1 : kk.1 ≤ kk.2) (h2 : kk.2 ≤ s.length) (hu : 0 ≤ up ∧ up ≤ 1000000000) (hd : d + g = 8) (hd0 : -9223372036854775808 ≤ d) (hc : st.1.length + (L.length - j) ≤ st.2) (h64 : st.2 ≤ 64) (hj : j < L.length)
  (ho : OwnPars X B (.slice A m c) (readPt s up d kk.1 kk.2 dg).typ.params) (hr : Pars X X.heap.size A m (readPt s up d kk.1 kk.2 dg).typ.params) (hB : w.heap.size + 4 ≤ B) (hrB : ∀ k, r = some k → k < B) :
  Calls Tryz.prog 33 #[prtV (readPt s up d kk.1 kk.2 dg) A m c, .pointer (some ⟨w.heap.size + 1, 0, none⟩), .pointer (some ⟨w.heap.size, 0, none⟩), .pointer (some ⟨w.heap.size + 2, 0, none⟩), .pointer (some ⟨w.heap.size + 3, 0, none⟩)] X (OpenPost w.heap.size s (openM s f (st.1, st.2) (readPt s up d kk.1 kk.2 dg)) r X) := by
 subst hf
 exact ih X st.1 st.2 r _ A m c _ _ hb hP (read_fit hs up d h1 h2 dg) ⟨hr, fun ad e => by
  have h := ho.isCells e
  exact ⟨Nat.le_trans hB h.1, h.2, fun e2 => by have := hrB _ e2; omega⟩⟩ (read_ok hs h1 h2 dg ⟨by omega, by omega⟩ ⟨hd0, by omega⟩ _) hd (by omega) h64
theorem openM_up (s : List UInt8) (f : Nat) (st : List Prt × Nat) (up d : Int) (dg : Bool) (L : List (Nat × Nat)) (j : Nat) (hj : j < L.length) : openL s f up d dg (L.drop j) st = openL s f up d dg (L.drop (j + 1)) (openM s f st (readPt s up d L[j].1 L[j].2 dg)) := by
 unfold openL
 rw [List.drop_eq_getElem_cons hj, List.foldl_cons]
theorem PLp.next {N : Nat} {s : List UInt8} {f g : Nat} {up d : Int} {dg : Bool} {L : List (Nat × Nat)} {T : List Prt × Nat} {R6 : Option Nat} {W4 wr X W' : World} {j : Nat} {st : List Prt × Nat} {r r' : Option Nat} {kk : Nat × Nat} (hj : j < L.length) (hk : L[j] = kk) (hf : f = g + 1)
  (h2 : PKeep N R6 r W4 wr) (hX : Below wr.heap.size wr X) (h3 : openL s f up d dg (L.drop j) st = T) (h4 : st.1.length + (L.length - j) ≤ st.2) (h5 : st.2 ≤ 64) (hd : d + g = 8)
  (hP : POut N s (openM s f (st.1, st.2) (readPt s up d kk.1 kk.2 dg)).1 (openM s f (st.1, st.2) (readPt s up d kk.1 kk.2 dg)).2 r' W') (hK : PKeep N r r' X W') : PLp N s f up d dg L T R6 W4 (j + 1) W' := by
 subst hk
 subst hf
 have hl := openM_left s g st (readPt s up d L[j].1 L[j].2 dg) hd (by omega) h5
 refine ⟨_, r', hP, (h2.trans (PKeep.ofBelow hX)).trans hK, ?_, ?_, hl.2.1⟩
 ·rw [← h3, openM_up _ _ _ _ _ _ _ _ hj]
 ·show (openM s (g + 1) st _).1.length + _ ≤ (openM s (g + 1) st _).2
  omega
set_option maxRecDepth 100000 in
theorem popen_any (w : World) (s : List UInt8) (f : Nat) (hs : s.length ≤ 10000000) (hT : Tabs w) (ih : ∀ g, f = g + 1 → OpenC w s g) : OpenC w s f := by
 intro W ps n ro p A m c b t hB hP hF hD hok hdep hn1 hn2
 have HI := Lib.hid ih
 have HT := Lib.hid hT
 have HW := Lib.hid hB
 have HP := Lib.hid hP
 have HF := Lib.hid hF
 have HD := Lib.hid hD
 have HOK := Lib.hid hok
 clear ih hT hB hP hF hD hok
 obtain ⟨v, l, h1, he, ho, hlm, hd⟩ := HP.out.ex
 obtain ⟨vA, vc, rfl⟩ := ho.sl
 have hlen : (l.map rawQ).length = ps.length := by rw [List.length_map, ← hlm, List.length_map]
 rw [hlen] at h1 he ho
 have hsz := HP.out.size
 obtain ⟨N, hN⟩ : ∃ N, w.heap.size = N := ⟨_, rfl⟩
 rw [hN] at HP HD hsz h1 ho hd ⊢
 unfold prtV
 obtain ⟨p0, p1, p2, p3, p4, ⟨p5, p6, p7⟩, p8⟩ := p
 dsimp only
 obtain ⟨M, hM⟩ : ∃ M, W.heap.size = M := ⟨_, rfl⟩
 have HB1 := Lib.hid (show Below W.heap.size W (W.alloc (.cells #[.int .i64 p0, .int .i64 p1, .int .i64 p2, .int .i64 p3, .int .i64 p4, .string (ba p5), .string (ba p6), .slice A m c, .string (ba p8)] 26)) from (Below.refl _ _).alloc (Nat.le_refl _) _)
 have hb1 : (W.alloc (.cells #[.int .i64 p0, .int .i64 p1, .int .i64 p2, .int .i64 p3, .int .i64 p4, .string (ba p5), .string (ba p6), .slice A m c, .string (ba p8)] 26)).heap[N + 1]? = _ := (HB1.out.block _ (by omega)).trans h1
 have c1 := cells_at hb1 0 (u := .slice vA ps.length vc) rfl
 have f1 := cells_free hb1 0
 have hbx := (MapKept.heap_alloc W (.cells #[.int .i64 p0, .int .i64 p1, .int .i64 p2, .int .i64 p3, .int .i64 p4, .string (ba p5), .string (ba p6), .slice A m c, .string (ba p8)] 26)).1
 have b0 := cells_at hbx 0 (u := .int .i64 p0) rfl
 have b1 := cells_at hbx 1 (u := .int .i64 p1) rfl
 have b2 := cells_at hbx 2 (u := .int .i64 p2) rfl
 have b3 := cells_at hbx 3 (u := .int .i64 p3) rfl
 have b4 := cells_at hbx 4 (u := .int .i64 p4) rfl
 have b5 := cells_at hbx 5 (u := .string (ba p5)) rfl
 have b6 := cells_at hbx 6 (u := .string (ba p6)) rfl
 have b7 := cells_at hbx 7 (u := .slice A m c) rfl
 have b8 := cells_at hbx 8 (u := .string (ba p8)) rfl
 simp only [hM] at b0 b1 b2 b3 b4 b5 b6 b7 b8
 have HBX := Lib.hid hbx
 have HV1 := Lib.hid h1
 have HE := Lib.hid he
 have HO := Lib.hid ho
 have HLM := Lib.hid hlm
 have HDD := Lib.hid hd
 have HHB := Lib.hid hb1
 clear h1 he ho hlm hd hb1 hbx
 obtain ⟨W2, hW2⟩ : ∃ W2, (W.alloc (.cells #[.int .i64 p0, .int .i64 p1, .int .i64 p2, .int .i64 p3, .int .i64 p4, .string (ba p5), .string (ba p6), .slice A m c, .string (ba p8)] 26)).alloc (.cells #[.int .i64 p0, .int .i64 p1, .int .i64 p2, .int .i64 p3, .int .i64 p4, .string (ba p5), .string (ba p6), .slice A m c, .string (ba p8)] 26) = W2 := ⟨_, rfl⟩
 have HB2 := Lib.hid (show Below W.heap.size W W2 by rw [← hW2]; exact HB1.out.alloc (by simp) _)
 have HP2 := Lib.hid (HP.out.below HB2.out)
 have HO2 := Lib.hid (HO.out.below HB2.out)
 have HV2 := Lib.hid ((HB2.out.block _ (by omega)).trans HV1.out)
 have HD2 := Lib.hid (fun q hq => (HDD.out q hq).keep (PKeep.ofBelow HB2.out))
 have HDQ := Lib.hid (HD.out.keep (PKeep.ofBelow HB2.out))
 have HR2 := Lib.hid (show Parts W2 (M + 1 + 1) (some ⟨M + 1, 0, none⟩) 1 [rawP ⟨p0, p1, p2, p3, p4, ⟨p5, p6, p7⟩, p8⟩ (A, m, c)] by
  have h := parts_one (W.alloc (.cells #[.int .i64 p0, .int .i64 p1, .int .i64 p2, .int .i64 p3, .int .i64 p4, .string (ba p5), .string (ba p6), .slice A m c, .string (ba p8)] 26)) ⟨p0, p1, p2, p3, p4, ⟨p5, p6, p7⟩, p8⟩ (A, m, c) HOK.out
  dsimp only at h
  rw [hW2, World.size_alloc, hM] at h
  exact h)
 have HBX2 := Lib.hid (show W2.heap[M]? = some (.cells #[.int .i64 p0, .int .i64 p1, .int .i64 p2, .int .i64 p3, .int .i64 p4, .string (ba p5), .string (ba p6), .slice A m c, .string (ba p8)] 26 (0, 0)) by rw [← hW2, ← hM]; exact (Below.heap_alloc _ _ _ (by simp)).trans HBX.out)
 have HM2 := Lib.hid (show W2.heap.size = M + 2 by rw [← hW2]; simp [hM])
 have d1 := cells_at HV2.out 0 (u := .slice vA ps.length vc) rfl
 have e1 := cells_free HV2.out 0
 have HPU := Lib.hid (fun v' w' h1 h2 h3 => HP2.out.push (v' := v') (W' := w') (q := (⟨p0, p1, p2, p3, p4, ⟨p5, p6, p7⟩, p8⟩, A, m, c)) HV2.out HE.out HO2.out HLM.out HD2.out h1 h2 h3 HDQ.out)
 have HK := Lib.hid (show ∀ w6, W2.grownBy w6 (Value.slice vA ps.length vc).ownBlock → ∀ k o, k < N + 4 → W2.heap[k]? = some o → w6.heap[k]? = some o from fun w6 h2 k o hk ho => (h2.block k (heap_lt ho) fun e => by have := (HO2.out.isCells e.symm).1; omega).trans ho)
 have HKM := Lib.hid (show ∀ w6, W2.grownBy w6 (Value.slice vA ps.length vc).ownBlock → w6.heap[M]? = _ from fun w6 h2 => (h2.block M (heap_lt HBX2.out) fun e => by have := (HO.out.isCells e.symm).2.1; omega).trans HBX2.out)
 have HW2 := Lib.hid hW2
 clear hW2
 go_enter Tryz.func33, Tryz.ntmps33
 go_wp2_with (at_builtin; (rw [HW2.out]); go_must (refine wpList_joinPart (w := W2) HO2.out (by have := HM2.out; omega) HR2.out (by rw [hlen]; omega) rfl (.tmp 13) (.tmp 15) _ 1 rfl Tryz.underlying31 rfl rfl ?_); intro v6 w6 h1 h2 h3; obtain ⟨A6, c6, rfl⟩ := h1.sl; (have HN6 := Lib.hid (HPU.out _ w6 h1 h2 h3); have HK6 := Lib.hid (HK.out w6 h2); have g1 := cells_at (HK6.out _ _ (by omega) HV2.out) 0 (u := .slice vA ps.length vc) rfl; have u1 := cells_free (HK6.out _ _ (by omega) HV2.out) 0; have g0 := cells_at (HK6.out _ _ (by omega) HP2.out.cs) 0 (u := .string (ba s)) rfl; have HQ6 := Lib.hid (HKM.out w6 h2); have q0 := cells_at HQ6.out 0 (u := .int .i64 p0) rfl; have q1 := cells_at HQ6.out 1 (u := .int .i64 p1) rfl; have q2 := cells_at HQ6.out 2 (u := .int .i64 p2) rfl; have q3 := cells_at HQ6.out 3 (u := .int .i64 p3) rfl; have q4 := cells_at HQ6.out 4 (u := .int .i64 p4) rfl; have q5 := cells_at HQ6.out 5 (u := .string (ba p5)) rfl; have q6 := cells_at HQ6.out 6 (u := .string (ba p6)) rfl; have q7 := cells_at HQ6.out 7 (u := .slice A m c) rfl; have q8 := cells_at HQ6.out 8 (u := .string (ba p8)) rfl); clear h1 h2 h3)
 obtain ⟨P, hPP⟩ : ∃ P : Prt, P = ⟨p0, p1, p2, p3, p4, ⟨p5, p6, p7⟩, p8⟩ := ⟨_, rfl⟩
 obtain ⟨W3, hW3⟩ : ∃ W3, w6.setCell ⟨N + 1, 0, none⟩ (.slice A6 ((l.map rawQ ++ [rawP ⟨p0, p1, p2, p3, p4, ⟨p5, p6, p7⟩, p8⟩ (A, m, c)]).length) c6) = W3 := ⟨_, rfl⟩
 have HN3 := Lib.hid HN6.out
 rw [hW3] at HN3
 obtain ⟨R6, hR6⟩ : ∃ r, (Value.slice A6 ((l.map rawQ ++ [rawP ⟨p0, p1, p2, p3, p4, ⟨p5, p6, p7⟩, p8⟩ (A, m, c)]).length) c6).ownBlock = r := ⟨_, rfl⟩
 rw [hR6] at HN3
 have HQ3 := Lib.hid (show W3.heap[M]? = some (.cells #[.int .i64 p0, .int .i64 p1, .int .i64 p2, .int .i64 p3, .int .i64 p4, .string (ba p5), .string (ba p6), .slice A m c, .string (ba p8)] 26 (0, 0)) from by rw [← hW3]; exact (Go.RowKit.Below.heap_setCell _ _ _ _ (by show M ≠ N + 1; omega)).trans HQ6.out)
 have hl6 : (l.map rawQ ++ [rawP ⟨p0, p1, p2, p3, p4, ⟨p5, p6, p7⟩, p8⟩ (A, m, c)]).length = ps.length + 1 := by rw [List.length_append, hlen]; rfl
 have HRO := Lib.hid HP.out.ro_ge
 have HRM := Lib.hid (show R6 ≠ some M from fun e => by
  rcases HN3.out.2.row with h | ⟨k, h, hk⟩
  ·have := (HO.out.isCells (HE.out.trans (h.symm.trans e))).2.1
   omega
  ·rw [h] at e
   injection e with e
   have := HM2.out
   omega)
 rw [hl6] at hW3
 rw [hW3]
 have HD3 := Lib.hid (HDQ.out.keep HN3.out.2)
 rw [← hPP] at HF HD3
 have HIN := Lib.hid (inner_any s P b t A m c W3 (by omega) HF.out HD3.out.rd)
 have HIN : Hid (Calls Tryz.prog 34 #[.string (ba s), .agg #[.int .i64 p0, .int .i64 p1, .int .i64 p2, .int .i64 p3, .int .i64 p4, .string (ba p5), .string (ba p6), .slice A m c, .string (ba p8)]] W3 (InPost W3 (innerP s P))) := by rw [hPP] at HIN ⊢; exact HIN
 have HP3 := Lib.hid HN3.out.1
 have HKP := Lib.hid ((PKeep.ofBelow (N := N) (ro := ro) HB2.out).trans HN3.out.2)
 rw [← hPP] at HP3
 have HPP := Lib.hid hPP
 have hdP : P.depth = p1 := by rw [hPP]
 have hkP : P.typ.kind = p5 := by rw [hPP]
 have hsP : P.typ.sub = p6 := by rw [hPP]
 clear hW3 HN6 HN3 HQ6 hR6 hPP HK6 HPU HK HKM HW2 HBX2 HR2 HD2 HDQ HO2 HV2 HP2 HDD HLM HO HE HV1 HBX HHB HB1 HP HD q0 q1 q2 q3 q4 q5 q6 q7 q8 g0 g1 u1 d1 e1 hl6
 refine HIN.out.mono ?_
 rintro e W4 ⟨lA, ln, lc, rfl, hl4, hb4, hfr⟩
 have HFR := Lib.hid hfr
 clear hfr
 have HP4 := Lib.hid (HP3.out.below hb4)
 have HL4 := Lib.hid hl4
 have HB4 := Lib.hid hb4
 have hln : ln = (innerP s P).length := by rw [← hl4.len, List.length_map]
 have HK4 := Lib.hid (HKP.out.trans (PKeep.ofBelow hb4))
 have HQ4 := Lib.hid ((hb4.block M (heap_lt HQ3.out)).trans HQ3.out)
 have hll : (innerP s P).length ≤ 1000000000 := by have := inner_len s P; omega
 clear hl4 hb4
 obtain ⟨L, hL⟩ : ∃ L, innerP s P = L := ⟨_, rfl⟩
 rw [hL] at hln hll HL4
 subst hln
 have z2 := cells_at HP4.out.cf 0 (u := .int .i64 (n : Int)) rfl
 have y2 := cells_free HP4.out.cf 0
 by_cases h64 : 64 < n + L.length
 ·have h64i : (64 : Int) < (n : Int) + (L.length : Int) := by omega
  have HO4 := Lib.hid (show openM s (f + 1) (ps, n) P = (ps ++ [P], n) by rw [openM_succ, hL]; exact if_pos h64)
  go_wp2
  go_end0
  rw [← HPP.out, HO4.out]
  exact ⟨_, _, rfl, HP4.out, HK4.out⟩
 ·have HO4 := Lib.hid (show openM s (f + 1) (ps, n) P = openL s f ps.length (P.depth + 1) (digestB P) L (ps ++ [P], n + L.length) by rw [openM_succ, hL]; exact if_neg h64)
  obtain ⟨k0, hk0⟩ : ∃ k, n + L.length = k := ⟨_, rfl⟩
  have hki : (n : Int) + (L.length : Int) = (k0 : Int) := by omega
  have hk64 : ¬ (64 : Int) < (k0 : Int) := by omega
  rw [hk0] at HO4
  have HF5 := Lib.hid (HP4.out.found k0)
  have hMN : ¬ M = N + 2 := by have := HP4.out.size; omega
  have r5 := cells_at HQ4.out 5 (u := .string (ba p5)) rfl
  have r6 := cells_at HQ4.out 6 (u := .string (ba p6)) rfl
  have HPL := Lib.hid (show ∀ dg, digestB P = dg → ∀ wr, wr = W4.setCell ⟨N + 2, 0, none⟩ (.int .i64 (k0 : Int)) → PLp N s f (ps.length : Nat) (p1 + 1) dg L (openM s (f + 1) (ps, n) P) R6 W4 0 wr from by
   rintro dg rfl wr rfl
   rw [← hdP]
   refine ⟨_, _, HF5.out.1, HF5.out.2, by rw [HO4.out]; rfl, ?_, by omega⟩
   rw [List.length_append, List.length_singleton]
   show ps.length + 1 + (L.length - 0) ≤ k0
   omega)
  have HRL := Lib.hid (show ∀ wr r, PKeep N R6 r W4 wr → Prs wr wr.heap.size lA L.length (L.map pairI) from fun wr r hk => by
   refine (HL4.out.keepB fun ad e hl => hk.blk _ hl ?_ ?_ ?_).more hk.size
   ·have := HFR.out ad e; have := HP3.out.size; omega
   ·have := HFR.out ad e; have := HP3.out.size; omega
   ·intro e2
    obtain ⟨v, l, _, e3, h3, _⟩ := HP3.out.ex
    have := (h3.isCells (e3.trans e2)).2.1
    have := HFR.out ad e
    omega)
  have HBM := Lib.hid (show ∀ wr r, PKeep N R6 r W4 wr → wr.heap[M]? = _ from fun wr r hk => (hk.blk M (heap_lt HQ4.out) (by omega) (by omega) HRM.out).trans HQ4.out)
  clear h64
  obtain ⟨W5, hW5⟩ : ∃ W5, W4.setCell ⟨N + 2, 0, none⟩ (.int .i64 (k0 : Int)) = W5 := ⟨_, rfl⟩
  have HQ5 := Lib.hid (show W5.heap[M]? = some (.cells #[.int .i64 p0, .int .i64 p1, .int .i64 p2, .int .i64 p3, .int .i64 p4, .string (ba p5), .string (ba p6), .slice A m c, .string (ba p8)] 26 (0, 0)) from by rw [← hW5]; exact (Go.RowKit.Below.heap_setCell _ _ _ _ (by show M ≠ N + 2; omega)).trans HQ4.out)
  obtain ⟨dg, hdg⟩ : ∃ d, digestB P = d := ⟨_, rfl⟩
  have HPS := Lib.hid (HPL.out dg hdg W5 hW5.symm)
  have hdeq : dg = (decide (p5 = wMulti) && decide (p6 = wDigest)) := by rw [← hdg]; unfold digestB; rw [hkP, hsP]
  have HDQ := Lib.hid hdeq
  clear hdeq hdg HPL
  go_upto_region 6 with (fail)
  try rw [hW5]
  clear hW5 r5 r6 z2 y2
  go_cut [8] from 29 to 38 (fun v wc => v = .bool dg ∧ wc = W5)
  case first =>
   have r5 := cells_at HQ5.out 5 (u := .string (ba p5)) rfl
   have r6 := cells_at HQ5.out 6 (u := .string (ba p6)) rfl
   by_cases hK : p5 = wMulti
   ·have gK : ((ba p5).toList == [109, 117, 108, 116, 105, 112, 97, 114, 116]) = true := by rw [ba_toList, hK]; rfl
    by_cases hS : p6 = wDigest
    ·have gS : ((ba p6).toList == [100, 105, 103, 101, 115, 116]) = true := by rw [ba_toList, hS]; rfl
     have HE := Lib.hid (show dg = true by rw [HDQ.out, hK, hS]; rfl)
     clear hK hS
     go_wp2
     go_meet
     case rel => exact ⟨by rw [HE.out], rfl⟩
    ·have gS : ((ba p6).toList == [100, 105, 103, 101, 115, 116]) = false := by rw [ba_toList]; show (p6 == wDigest) = false; simpa using hS
     have HE := Lib.hid (show dg = false by rw [HDQ.out]; simp [hS])
     clear hK hS
     go_wp2
     go_meet
     case rel => exact ⟨by rw [HE.out], rfl⟩
   ·have gK : ((ba p5).toList == [109, 117, 108, 116, 105, 112, 97, 114, 116]) = false := by rw [ba_toList]; show (p5 == wMulti) = false; simpa using hK
    have HE := Lib.hid (show dg = false by rw [HDQ.out]; simp [hK])
    clear hK
    go_wp2
    go_meet
    case rel => exact ⟨by rw [HE.out], rfl⟩
  case rest =>
   obtain ⟨rfl, rfl⟩ := hcut
   clear HDQ
   have HDEP := Lib.hid (show 0 < L.length → ∃ g, f = g + 1 from fun h => by
    cases f with
    | succ g => exact ⟨g, rfl⟩
    | zero =>
     have h1 : innerP s P = [] := inner_deep (by rw [hdP]; omega)
     rw [hL] at h1
     rw [h1] at h
     exact absurd h (Nat.lt_irrefl _))
   go_wp2
   go_loopw [10, 41] (fun a b wr => ∃ (j : Nat) (y : Value), a = y ∧ j ≤ L.length ∧ b = .int .i64 (j : Int) ∧ Hid (PLp N s f (ps.length : Nat) (p1 + 1) dg L (openM s (f + 1) (ps, n) P) R6 W4 j wr)) (fun _ b _ => L.length - (intOf b).toNat)
   case atStart => exact ⟨0, _, rfl, Nat.zero_le _, rfl, HPS⟩
   case round =>
    obtain ⟨j, y, rfl, hj, rfl, HR⟩ := hrel
    by_cases hjl : j < L.length
    ·obtain ⟨g, hg⟩ := HDEP.out (by omega)
     have HG := Lib.hid hg
     clear hg
     obtain ⟨st, r, q1, q2, q3, q4, q5⟩ := HR.out.ex
     have HQ1 := Lib.hid q1
     have HQ2 := Lib.hid q2
     have HQ3' := Lib.hid q3
     have HQ45 := Lib.hid (And.intro q4 q5)
     have hx := (HRL.out _ _ q2).2 j (by rw [List.length_map]; exact hjl)
     obtain ⟨ad, rfl, hbl, x0, x1, -⟩ := hx
     rw [List.getElem_map] at x0 x1
     obtain ⟨kk, hkk⟩ : ∃ k, L[j] = k := ⟨_, rfl⟩
     rw [hkk] at x0 x1
     replace x0 : wr.cell? (ad.add (j * 2)) = some (.int .i64 ((kk.1 : Nat) : Int)) := x0
     replace x1 : wr.cell? ⟨(ad.add (j * 2)).block, (ad.add (j * 2)).off + 1, none⟩ = some (.int .i64 ((kk.2 : Nat) : Int)) := x1
     have bx := HBM.out _ _ q2
     have m1 := cells_at bx 1 (u := .int .i64 p1) rfl
     have m0 := cells_at q1.cs 0 (u := .string (ba s)) rfl
     have m3 := cells_at q1.cp 0 (u := .func (.func 33) #[] #[.pointer (some ⟨N + 1, 0, none⟩), .pointer (some ⟨N, 0, none⟩), .pointer (some ⟨N + 2, 0, none⟩), .pointer (some ⟨N + 3, 0, none⟩)]) rfl
     have hp1a : (-9223372036854775808 : Int) ≤ p1 := HOK.out.2.1.1
     have hp1b : p1 ≤ 8 := by omega
     have hwr : IntKind.i64.wrap (p1 + 1) = p1 + 1 := by rw [IntKind.wrap_i64]; omega
     have hji : (j : Int) < (L.length : Int) := by omega
     have HKO := Lib.hid (inner_ok HF.out kk (by rw [hL, ← hkk]; exact List.getElem_mem hjl))
     have hbw := q2.below (by have := HP4.out.size; omega) (fun k e => by obtain ⟨v, l, _, e3, h3, _⟩ := HP3.out.ex; exact (h3.isCells (e3.trans e)).1)
     have HBW := Lib.hid hbw
     obtain ⟨V, hV⟩ : ∃ V, wr.alloc (.cells #[.int .i64 ((kk.1 : Nat) : Int), .int .i64 ((kk.2 : Nat) : Int)] 53) = V := ⟨_, rfl⟩
     have HVB := Lib.hid (show Below wr.heap.size wr V by rw [← hV]; exact (Below.refl _ _).alloc (Nat.le_refl _) _)
     have hvb := (MapKept.heap_alloc wr (.cells #[.int .i64 ((kk.1 : Nat) : Int), .int .i64 ((kk.2 : Nat) : Int)] 53)).1
     rw [hV] at hvb
     have HKE := Lib.hid (show ∀ X, Below V.heap.size V X → X.cell? ⟨N + 3, 0, none⟩ = some (.func (.func 33) #[] #[.pointer (some ⟨N + 1, 0, none⟩), .pointer (some ⟨N, 0, none⟩), .pointer (some ⟨N + 2, 0, none⟩), .pointer (some ⟨N + 3, 0, none⟩)]) ∧ X.cell? ⟨N, 0, none⟩ = some (.string (ba s)) ∧ X.cell? ⟨M, 1, none⟩ = some (.int .i64 p1) ∧ X.cell? ⟨wr.heap.size, 0, none⟩ = some (.int .i64 ((kk.1 : Nat) : Int)) ∧ X.cell? ⟨wr.heap.size, 1, none⟩ = some (.int .i64 ((kk.2 : Nat) : Int)) from fun X hX => by
      have k1 : ∀ k o, wr.heap[k]? = some o → X.heap[k]? = some o := fun k o hk => (hX.block k (Nat.lt_of_lt_of_le (heap_lt hk) HVB.out.size)).trans ((HVB.out.block k (heap_lt hk)).trans hk)
      have k2 := (hX.block _ (heap_lt hvb)).trans hvb
      exact ⟨cells_at (k1 _ _ q1.cp) 0 rfl, cells_at (k1 _ _ q1.cs) 0 rfl, cells_at (k1 _ _ bx) 1 rfl, cells_at k2 0 rfl, cells_at k2 1 rfl⟩)
     have HWX := Lib.hid (show ∀ X, Below V.heap.size V X → Below w.heap.size w X from fun X hX => by
      have h0 : Below N w W := by rw [← hN]; exact HW.out
      have h1 := h0.trans (HK4.out.below (by omega) HRO.out)
      have h2 := (h1.trans HBW.out).trans (HVB.out.mono (by have := HBW.out.size; have := HP4.out.size; omega))
      have h3 := h2.trans (hX.mono (by have := h2.size; have := HVB.out.size; have := HBW.out.size; have := HP4.out.size; omega))
      rw [hN]
      exact h3)
     have HTV := Lib.hid (fun X hX => HT.out.below (HWX.out X hX))
     obtain ⟨PT, hPT⟩ : ∃ q, readPt s ((ps.length : Nat) : Int) (p1 + 1) kk.1 kk.2 dg = q := ⟨_, rfl⟩
     have HRD := Lib.hid (fun X hX => read_any s ((ps.length : Nat) : Int) (p1 + 1) kk.1 kk.2 dg X hs HKO.out.1 HKO.out.2 (HTV.out X hX))
     rw [hPT] at HRD
     have HPT := Lib.hid hPT
     have hdg2 : p1 + 1 + (g : Int) = 8 := by have := HG.out; omega
     have HDG2 := Lib.hid hdg2
     have HROB := Lib.hid (show ∀ k, r = some k → k < V.heap.size from fun k e => by obtain ⟨v, l, _, e3, h3, _⟩ := HQ1.out.ex; have := (h3.isCells (e3.trans e)).2.1; have := HVB.out.size; omega)
     have HKJ := Lib.hid hkk
     clear hdg2 hkk
     clear hPT
     have HV := Lib.hid hV
     have hkv := HKE.out _ (Below.refl _ _)
     obtain ⟨v3, v0, vM, va, vb⟩ := hkv
     clear q1 q2 q3 q4 q5 bx HR hV hvb hbw
     go_wp2_with fail
     rw [HV.out]
     go_region_held3 (fun w' => w'.cell? ⟨N + 3, 0, none⟩ = some (.func (.func 33) #[] #[.pointer (some ⟨N + 1, 0, none⟩), .pointer (some ⟨N, 0, none⟩), .pointer (some ⟨N + 2, 0, none⟩), .pointer (some ⟨N + 3, 0, none⟩)]) ∧ w'.cell? ⟨N, 0, none⟩ = some (.string (ba s)) ∧ w'.cell? ⟨M, 1, none⟩ = some (.int .i64 p1) ∧ w'.cell? ⟨wr.heap.size, 0, none⟩ = some (.int .i64 ((kk.1 : Nat) : Int)) ∧ w'.cell? ⟨wr.heap.size, 1, none⟩ = some (.int .i64 ((kk.2 : Nat) : Int)))
      (first
       | exact HCK.out
       | exact HKE.out _ HX1.out
       | exact HKE.out _ ((Below.refl _ _).drew))
      (first
       | (go_simp; go_at_call 35; refine (HRD.out _ ((Below.refl _ _).drew)).mono ?_; rintro e X1 ⟨v7, rfl, ho7, hb7⟩; obtain ⟨A7, c7, rfl, _, _, hr7⟩ := ho7.reads; (
         have HO7 := Lib.hid ho7
         have HR7 := Lib.hid hr7
         clear ho7 hr7
         have HX1 := Lib.hid (show Below V.heap.size V X1 from (Below.refl _ _).drew.trans (hb7.mono (Nat.le_refl _)))
         clear hb7))
       | (go_simp; go_at_call 33; (
         have HXW := Lib.hid (HVB.out.trans (HX1.out.mono HVB.out.size))
         have HPX := Lib.hid (HQ1.out.below HXW.out)
         have HCL := Lib.hid (round_call (w := w) (X := X1) (s := s) (f := f) (g := g) (j := j) (up := (ps.length : Nat)) (d := p1 + 1) (L := L) (st := st) (r := r) (B := V.heap.size) (kk := kk) (dg := dg) (A := A7) (m := _) (c := c7) hs HG.out (HI.out g HG.out) (HWX.out _ HX1.out) (by rw [hN]; exact HPX.out) HKO.out.1 HKO.out.2 (by omega) HDG2.out (by omega) HQ45.out.1 HQ45.out.2 hjl (by rw [HPT.out]; exact HO7.out) (by rw [HPT.out]; exact HR7.out) (by rw [hN]; have := HQ1.out.size; have := HVB.out.size; omega) HROB.out)
         rw [HPT.out, hN] at HCL
         refine HCL.out.mono ?_
         rintro e W9 ⟨v9, r9, rfl, hP9, hK9⟩
         have HNX := Lib.hid (PLp.next hjl HKJ.out HG.out HQ2.out HXW.out HQ3'.out HQ45.out.1 HQ45.out.2 HDG2.out (by rw [HPT.out]; exact hP9) hK9)
         have HCK := Lib.hid (show W9.cell? ⟨N + 3, 0, none⟩ = some (.func (.func 33) #[] #[.pointer (some ⟨N + 1, 0, none⟩), .pointer (some ⟨N, 0, none⟩), .pointer (some ⟨N + 2, 0, none⟩), .pointer (some ⟨N + 3, 0, none⟩)]) ∧ W9.cell? ⟨N, 0, none⟩ = some (.string (ba s)) ∧ W9.cell? ⟨M, 1, none⟩ = some (.int .i64 p1) ∧ W9.cell? ⟨wr.heap.size, 0, none⟩ = some (.int .i64 ((kk.1 : Nat) : Int)) ∧ W9.cell? ⟨wr.heap.size, 1, none⟩ = some (.int .i64 ((kk.2 : Nat) : Int)) from by
          obtain ⟨z3, z0, zM, za, zb⟩ := HKE.out _ HX1.out
          have kc : ∀ k i, k < X1.heap.size → k ≠ N + 1 → k ≠ N + 2 → r ≠ some k → W9.cell? ⟨k, i, none⟩ = X1.cell? ⟨k, i, none⟩ := fun k i h1 h2 h3 h4 => World.cell?_of_block (hK9.blk k h1 h2 h3 h4)
          have e1 := World.block_lt_of_cell? X1 _ zM
          have e2 := World.block_lt_of_cell? X1 _ za
          have e3 : r ≠ some M := by
           rcases HQ2.out.row with e | ⟨k, e, hk⟩
           ·rw [e]; exact HRM.out
           ·rw [e]; intro e4; injection e4 with e4; have := heap_lt HQ4.out; omega
          have e4 : r ≠ some wr.heap.size := fun e => by
           obtain ⟨v, l, _, e3, h3, _⟩ := HQ1.out.ex
           have := (h3.isCells (e3.trans e)).2.1
           omega
          have e5 := HQ1.out.size
          exact ⟨cells_at hP9.cp 0 rfl, cells_at hP9.cs 0 rfl, (kc M 1 e1 (by omega) (by omega) e3).trans zM, (kc wr.heap.size 0 e2 (by omega) (by omega) e4).trans za, (kc wr.heap.size 1 e2 (by omega) (by omega) e4).trans zb⟩)
         clear hP9 hK9))
       | fail)
     all_goals
      go_wp2
      go_roundw
      case rel => exact ⟨j + 1, _, rfl, by omega, rfl, HNX⟩
      case measure => simp [intOf] <;> omega
    ·obtain rfl : j = L.length := by omega
     go_wp2
     go_end0
     obtain ⟨st, r, q1, q2, q3, _, _⟩ := HR.out.ex
     rw [List.drop_length] at q3
     have q4 : st = openM s (f + 1) (ps, n) P := q3
     rw [← HPP.out, ← q4]
     exact ⟨_, _, rfl, q1, HK4.out.trans q2⟩
end Go.Proofs.YthidbmeaccpjdaaGreatDoor
