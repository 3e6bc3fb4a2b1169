/- Layer 14, plain: what read and inner give; and the state of Parse's closure. Layer 15: the contracts of Head, told, Name and Attached (printed by gen_dech. Layers 14 and 15, plain: a message whose header section is known. -/
import Derived.Test.YthidbmeaccpjdaaGreatDoorM40
import Derived.Test.YthidbmeaccpjdaaGreatDoorM41
import Derived.Test.YthidbmeaccpjdaaGreatDoorM30
import Derived.Test.YthidbmeaccpjdaaGreatDoorM10
import Derived.Test.YthidbmeaccpjdaaGreatDoorM32
import Derived.Test.YthidbmeaccpjdaaGreatDoorM36
import Derived.Test.YthidbmeaccpjdaaGreatDoorM31
namespace Go.Proofs.YthidbmeaccpjdaaGreatDoor
open Go.RowKit
set_option linter.unusedVariables false
set_option maxHeartbeats 4000000
theorem bodF_ok (s b : List UInt8) : ∀ (ls : List (List UInt8)) (a : Nat) (o : Option Nat), a + ls.flatten.length ≤ s.length → (∀ x, o = some x → x ≤ a) → ∀ k ∈ bodF s b ls a o, k.1 ≤ k.2 ∧ k.2 ≤ s.length
 | [], a, none, _, _, k, hk => by cases hk
 | [], a, some o, h, ho, k, hk => by
  rw [show bodF s b [] a (some o) = [(o, s.length)] from rfl, List.mem_singleton] at hk
  subst hk
  have := ho o rfl
  simp at h
  exact ⟨by show o ≤ s.length; omega, Nat.le_refl _⟩
 | l :: r, a, o, h, ho, k, hk => by
  rw [List.flatten_cons, List.length_append] at h
  have ih1 := bodF_ok s b r (a + l.length) (some (a + l.length)) (by omega) (fun x hx => by injection hx with hx; omega) k
  have ih2 := bodF_ok s b r (a + l.length) o (by omega) (fun x hx => Nat.le_trans (ho x hx) (Nat.le_add_right _ _)) k
  unfold bodF at hk
  split at hk
  ·rcases List.mem_append.1 hk with hk | hk
   ·cases o with
    | none => cases hk
    | some x =>
     have hx := ho x rfl
     rw [List.mem_singleton] at hk
     subst hk
     unfold aheadP
     dsimp only
     split
     ·split <;> omega
     ·omega
   ·split at hk
    ·cases hk
    ·exact ih1 hk
  ·exact ih2 hk
theorem bodF_len (s b : List UInt8) : ∀ (ls : List (List UInt8)) (a : Nat) (o : Option Nat), (bodF s b ls a o).length ≤ ls.length + 1
 | [], _, none => Nat.zero_le _
 | [], _, some _ => Nat.le_refl _
 | l :: r, a, o => by
  have h1 := bodF_len s b r (a + l.length) (some (a + l.length))
  have h2 := bodF_len s b r (a + l.length) o
  unfold bodF
  cases o <;> cases (bndP l b).1 <;> cases (bndP l b).2 <;> simp <;> omega
theorem inner_len (s : List UInt8) (p : Prt) : (innerP s p).length ≤ s.length + 1 := by
 unfold innerP
 split
 ·exact Nat.zero_le _
 ·split
  ·split
   ·unfold bodiesP
    have h1 := bodF_len (s.take p.stop.toNat) ((paramT p.typ.params wBound).getD []) (linesP ((s.take p.stop.toNat).drop p.body.toNat)) p.body.toNat none
    have h2 := linesP_len ((s.take p.stop.toNat).drop p.body.toNat)
    rw [List.length_drop, List.length_take] at h2
    omega
   ·exact Nat.zero_le _
  ·split
   ·exact Nat.succ_le_succ (Nat.zero_le _)
   ·exact Nat.zero_le _
theorem inner_ok {s : List UInt8} {p : Prt} {b t : Nat} (h : PrtFit s p b t) : ∀ k ∈ innerP s p, k.1 ≤ k.2 ∧ k.2 ≤ s.length := by
 intro k hk
 unfold innerP at hk
 rw [h.hb, h.ht, Int.toNat_natCast, Int.toNat_natCast] at hk
 split at hk
 ·cases hk
 ·split at hk
  ·split at hk
   ·unfold bodiesP at hk
    have := bodF_ok (s.take t) _ _ b none (by rw [linesP_flat, List.length_drop, List.length_take]; have := h.le; have := h.ls; omega) (fun x hx => by cases hx) k hk
    rw [List.length_take] at this
    omega
   ·cases hk
  ·split at hk
   ·rw [List.mem_singleton] at hk
    subst hk
    exact ⟨h.le, h.ls⟩
   ·cases hk
theorem read_fit {s : List UInt8} (hs : s.length ≤ 10000000) (up depth : Int) {i j : Nat} (hij : i ≤ j) (hj : j ≤ s.length) (digest : Bool) : PrtFit s (readPt s up depth i j digest) (i + (headP ((s.take j).drop i)).2) j := by
 obtain ⟨l, hl⟩ : ∃ l, (s.take j).drop i = l := ⟨_, rfl⟩
 have hll : l.length = j - i := by rw [← hl, List.length_drop, List.length_take]; omega
 have hok := headP_ok l
 have hv : ((getP (headP l).1 ctName).getD []).length ≤ 10000000 := getD_len fun v hv => getP_len (fun x hx => Nat.le_trans (hok.1 x hx).2 (by omega)) hv
 have ht := typ_long hv
 have hk : (kindP14 (headP l).1 digest).params.length ≤ 10000000 ∧ ∀ q ∈ (kindP14 (headP l).1 digest).params, q.1.length ≤ 10000000 ∧ q.2.length ≤ 2570000000 := by
  unfold kindP14
  split
  ·exact ht
  ·exact ⟨Nat.zero_le _, fun q hq => by cases hq⟩
 unfold readPt
 rw [hl]
 refine ⟨rfl, rfl, by have := hok.2.2; omega, hj, Nat.le_trans hk.1 (by omega), fun q hq => Nat.le_trans (hk.2 q hq).1 (by omega), fun q hq => (hk.2 q hq).2⟩
def openL (s : List UInt8) (f : Nat) (up d : Int) (dg : Bool) (l : List (Nat × Nat)) (st : List Prt × Nat) : List Prt × Nat := l.foldl (fun t k => openM s f t (readPt s up d k.1 k.2 dg)) st
theorem openM_succ (s : List UInt8) (f : Nat) (st : List Prt × Nat) (p : Prt) : openM s (f + 1) st p = if 64 < st.2 + (innerP s p).length then (st.1 ++ [p], st.2) else openL s f st.1.length (p.depth + 1) (digestB p) (innerP s p) (st.1 ++ [p], st.2 + (innerP s p).length) := rfl
theorem inner_deep {s : List UInt8} {p : Prt} (h : 8 ≤ p.depth) : innerP s p = [] := by unfold innerP; rw [if_pos h]
theorem openM_left (s : List UInt8) : ∀ (f : Nat) (st : List Prt × Nat) (p : Prt), p.depth + f = 8 → st.1.length + 1 ≤ st.2 → st.2 ≤ 64 → (openM s (f + 1) st p).2 + st.1.length + 1 = st.2 + (openM s (f + 1) st p).1.length ∧ (openM s (f + 1) st p).2 ≤ 64 ∧ (openM s (f + 1) st p).1.length ≤ (openM s (f + 1) st p).2
 | 0, st, p, hd, h1, h2 => by
  rw [openM_succ, inner_deep (by omega)]
  rw [if_neg (by simp; omega)]
  simp [openL]
  omega
 | f + 1, st, p, hd, h1, h2 => by
  rw [openM_succ]
  split
  ·simp
   omega
  ·rename_i hn
   have key : ∀ (l : List (Nat × Nat)) (t : List Prt × Nat), t.1.length + l.length ≤ t.2 → t.2 ≤ 64 → (openL s (f + 1) st.1.length (p.depth + 1) (digestB p) l t).2 + t.1.length + l.length = t.2 + (openL s (f + 1) st.1.length (p.depth + 1) (digestB p) l t).1.length ∧ (openL s (f + 1) st.1.length (p.depth + 1) (digestB p) l t).2 ≤ 64 ∧ (openL s (f + 1) st.1.length (p.depth + 1) (digestB p) l t).1.length ≤ (openL s (f + 1) st.1.length (p.depth + 1) (digestB p) l t).2 := by
    intro l
    induction l with
    | nil => intro t ht h64; simp [openL]; simp at ht; omega
    | cons k r ih =>
     intro t ht h64
     rw [List.length_cons] at ht
     have h3 := openM_left s f t (readPt s st.1.length (p.depth + 1) k.1 k.2 (digestB p)) (by show p.depth + 1 + (f : Int) = 8; omega) (by omega) h64
     obtain ⟨T, hT⟩ : ∃ T, openM s (f + 1) t (readPt s st.1.length (p.depth + 1) k.1 k.2 (digestB p)) = T := ⟨_, rfl⟩
     rw [hT] at h3
     have h4 := ih T (by omega) h3.2.1
     have e : openL s (f + 1) st.1.length (p.depth + 1) (digestB p) (k :: r) t = openL s (f + 1) st.1.length (p.depth + 1) (digestB p) r T := by unfold openL; rw [List.foldl_cons, hT]
     rw [e, List.length_cons]
     omega
   have h5 := key (innerP s p) (st.1 ++ [p], st.2 + (innerP s p).length) (by simp; omega) (by show st.2 + _ ≤ 64; omega)
   simp only [List.length_append, List.length_singleton] at h5
   omega
def HdPost (w : World) (fs : List Fld) (e : Ending) (w' : World) : Prop := ∃ v, e = .returned v ∧ OwnFlds w' w.heap.size v fs ∧ Below w.heap.size w w'
theorem hd_fin {w w' w0 : World} {fs gs : List Fld} {v : Value} (h : fs = gs) (hz : w.heap.size ≤ w0.heap.size) (ho : OwnFlds w' w0.heap.size v gs) (hb : Below w.heap.size w w') : HdPost w fs (.returned v) w' := by
 subst h
 exact ⟨v, rfl, ho.more hz, hb⟩
set_option maxRecDepth 100000 in
theorem head14_any (l : List UInt8) (p : Prt) (A : Option Addr) (n c : Nat) (w : World) (hl : l.length ≤ 500000000) (hT : Tabs w) :
  Calls Tryz.prog 100 #[.string (ba l), prtV p A n c] w (HdPost w (headOf l p)) := by
 have HT := Lib.hid hT
 have HFI := Lib.hid (fun W => fits_any l p A n c W (by omega))
 have HEX := Lib.hid (fun i j => ba_cut l i j)
 have HFN := Lib.hid (fun (h : fitsP l.length p = true) => fits_in h)
 have HBO := Lib.hid (show headOf l p = if fitsP l.length p = true then (headP ((l.take p.stop.toNat).drop p.start.toNat)).1 else [] from rfl)
 have hlen : ((ba l).size : Int) = l.length := by rw [ba_size]
 unfold prtV prtC at HFI
 unfold prtV
 have HB := Lib.hid (show ∀ o o', Below w.heap.size w ((w.alloc o).alloc o') from fun o o' => ((Below.refl _ _).alloc (Nat.le_refl _) o).alloc (by simp) o')
 obtain ⟨f, hf⟩ : ∃ f, p.start = f := ⟨_, rfl⟩
 obtain ⟨b, hb⟩ : ∃ f, p.body = f := ⟨_, rfl⟩
 obtain ⟨t, ht⟩ : ∃ f, p.stop = f := ⟨_, rfl⟩
 simp only [hf, hb, ht] at HFI HFN
 rw [hf, ht] at HBO
 rw [hf, hb, ht]
 clear hf hb ht hT
 cases hx : fitsP l.length p with
 | false =>
  rw [hx] at HBO
  simp only [hx] at HFI
  have HV := Lib.hid (show headOf l p = [] by rw [HBO.out]; rfl)
  clear hx HBO HFN HEX
  go_enter Tryz.func100, Tryz.ntmps100
  go_wp2_with fail
  refine (HFI.out _).mono ?_
  rintro e w2 ⟨rfl, rfl⟩
  go_wp2
  go_ret
  exact hd_fin HV.out (Nat.le_refl _) (OwnFlds.nil_ _ _) (HB.out _ _)
 | true =>
  obtain ⟨h1, h2, h3, h4⟩ := HFN.out hx
  rw [hx] at HBO
  simp only [hx] at HFI
  obtain ⟨y, hy⟩ : ∃ y, (l.take t.toNat).drop f.toNat = y := ⟨_, rfl⟩
  have hyl : y.length ≤ 500000000 := by rw [← hy, List.length_drop, List.length_take]; omega
  have HV := Lib.hid (show headOf l p = (headP y).1 by rw [HBO.out, ← hy]; rfl)
  have hex := HEX.out f.toNat t.toNat
  rw [hy] at hex
  have HX := Lib.hid hex
  have HPA := Lib.hid (fun W hW => hparse_any y W hyl hW)
  unfold HeadPost at HPA
  have hft : f ≤ t := by omega
  have ht0 : 0 ≤ t := by omega
  clear hx HBO HFN hex h2 h3 hy hyl HEX
  go_enter Tryz.func100, Tryz.ntmps100
  go_wp2_with fail
  refine (HFI.out _).mono ?_
  rintro e w2 ⟨rfl, rfl⟩
  go_wp2_with fail
  rw [HX.out]
  refine (HPA.out _ (HT.out.below (HB.out _ _))).mono ?_
  rintro e w3 ⟨v, rfl, ho, hb3⟩
  obtain ⟨A3, c3, rfl, -, -, -⟩ := ho.reads
  have HO := Lib.hid ho
  have HB3 := Lib.hid ((HB.out (.cells #[.int .i64 p.up, .int .i64 p.depth, .int .i64 f, .int .i64 b, .int .i64 t, .string (ba p.typ.kind), .string (ba p.typ.sub), .slice A n c, .string (ba p.code)] 26) (.cells #[.int .i64 p.up, .int .i64 p.depth, .int .i64 f, .int .i64 b, .int .i64 t, .string (ba p.typ.kind), .string (ba p.typ.sub), .slice A n c, .string (ba p.code)] 26)).trans (hb3.mono (HB.out _ _).size))
  clear ho hb3
  go_wp2
  go_ret
  exact hd_fin HV.out (HB.out _ _).size HO.out HB3.out
theorem headOf_ok (s : List UInt8) (p : Prt) : (∀ x ∈ headOf s p, x.name.length ≤ s.length ∧ x.value.length ≤ s.length) ∧ (headOf s p).length ≤ s.length := by
 unfold headOf
 split
 ·have h := headP_ok ((s.take p.stop.toNat).drop p.start.toNat)
  have hl : ((s.take p.stop.toNat).drop p.start.toNat).length ≤ s.length := by rw [List.length_drop, List.length_take]; omega
  exact ⟨fun x hx => by have := h.1 x hx; omega, by omega⟩
 ·exact ⟨fun x hx => (by cases hx), Nat.zero_le _⟩
theorem told_len (s : List UInt8) (p : Prt) : ((getP (headOf s p) cdName).getD []).length ≤ s.length := getD_len fun v hv => getP_len (fun x hx => ((headOf_ok s p).1 x hx).2) hv
theorem disp_in {w w2 w3 : World} {q : List UInt8 × List (List UInt8 × List UInt8)} (hz : w.heap.size ≤ w2.heap.size) (hb : Below w.heap.size w w2) {e : Ending} (h : DispPost w2 q e w3) : DispPost w q e w3 := by
 obtain ⟨v, he, ho, hb2⟩ := h
 exact ⟨v, he, ho.more hz, hb.trans (hb2.mono hz)⟩
set_option maxRecDepth 100000 in
theorem told_any (s : List UInt8) (p : Prt) (A : Option Addr) (n c : Nat) (w : World) (hs : s.length ≤ 10000000) (hT : Tabs w) :
  Calls Tryz.prog 48 #[.string (ba s), prtV p A n c] w (DispPost w (toldP s p)) := by
 have HT := Lib.hid hT
 have HHE := Lib.hid (fun W (hW : Below w.heap.size w W) => head14_any s p A n c W (by omega) (HT.out.below hW))
 have hok := headOf_ok s p
 have hol := told_len s p
 have HV := Lib.hid (show toldP s p = dispT ((getP (headOf s p) cdName).getD []) from rfl)
 obtain ⟨fs, hfs⟩ : ∃ f, headOf s p = f := ⟨_, rfl⟩
 simp only [hfs] at HHE
 rw [hfs] at hok hol HV
 clear hfs
 obtain ⟨R, hR⟩ : ∃ R, toldP s p = R := ⟨_, rfl⟩
 rw [hR] at HV ⊢
 clear hR
 have HOK := Lib.hid (show ∀ f ∈ fs, f.name.length ≤ 1000000000 ∧ f.value.length ≤ 1000000000 from fun f hf => by have := hok.1 f hf; omega)
 have hfl : fs.length ≤ 1000000000 := by have := hok.2; omega
 obtain ⟨p0, p1, p2, p3, p4, ⟨p5, p6, p7⟩, p8⟩ := p
 unfold prtV at HHE ⊢
 unfold HdPost at HHE
 dsimp only at HHE ⊢
 have HBW := Lib.hid (show Below w.heap.size w (w.alloc (.cells #[.int .i64 p0, .int .i64 p1, .int .i64 p2, .int .i64 p3, .int .i64 p4, .string (ba p5), .string (ba p6), .slice A n c, .string (ba p8)] 26)) from (Below.refl _ _).alloc (Nat.le_refl _) _)
 have hbx := (MapKept.heap_alloc w (.cells #[.int .i64 p0, .int .i64 p1, .int .i64 p2, .int .i64 p3, .int .i64 p4, .string (ba p5), .string (ba p6), .slice A n c, .string (ba p8)] 26)).1
 have b0 := cells_at hbx 0 (u := .int .i64 p0) rfl
 have b1 := cells_at hbx 1 (u := .int .i64 p1) rfl
 have b2 := cells_at hbx 2 (u := .int .i64 p2) rfl
 have b3 := cells_at hbx 3 (u := .int .i64 p3) rfl
 have b4 := cells_at hbx 4 (u := .int .i64 p4) rfl
 have b5 := cells_at hbx 5 (u := .string (ba p5)) rfl
 have b6 := cells_at hbx 6 (u := .string (ba p6)) rfl
 have b7 := cells_at hbx 7 (u := .slice A n c) rfl
 have b8 := cells_at hbx 8 (u := .string (ba p8)) rfl
 clear hbx hT hok
 go_enter Tryz.func48, Tryz.ntmps48
 go_wp2_with fail
 refine (HHE.out _ HBW.out).mono ?_
 rintro e w2 ⟨v, rfl, ho, hb2⟩
 obtain ⟨A2, c2, rfl, -, -, hF⟩ := ho.reads
 have HB2 := Lib.hid (HBW.out.trans (hb2.mono HBW.out.size))
 obtain ⟨m, hm⟩ : ∃ m, fs.length = m := ⟨_, rfl⟩
 rw [hm] at hF hfl ⊢
 have HGE := Lib.hid (show Calls Tryz.prog 75 #[.slice A2 m c2, .string ⟨#[99, 111, 110, 116, 101, 110, 116, 45, 100, 105, 115, 112, 111, 115, 105, 116, 105, 111, 110]⟩] w2 (GetPost9 w2 (getP fs cdName)) from hget_any fs A2 m c2 cdName w2 hF hfl HOK.out (by decide) (HT.out.below HB2.out))
 clear ho hb2 hm hF b0 b1 b2 b3 b4 b5 b6 b7 b8
 unfold GetPost9 at HGE
 obtain ⟨o, ho⟩ : ∃ o, getP fs cdName = o := ⟨_, rfl⟩
 rw [ho] at HGE HV hol
 clear ho
 obtain ⟨y, hy⟩ : ∃ y, o.getD [] = y := ⟨_, rfl⟩
 obtain ⟨x, hx⟩ : ∃ x, o.isSome = x := ⟨_, rfl⟩
 rw [hy] at HGE HV hol
 rw [hx] at HGE
 clear hx hy
 go_wp2_with fail
 refine HGE.out.mono ?_
 rintro e w3 ⟨rfl, hb3⟩
 have HB3 := Lib.hid (HB2.out.trans (hb3.mono HB2.out.size))
 have HDI := Lib.hid (disp_any y w3 (by omega) (HT.out.below HB3.out))
 clear hb3
 rw [← HV.out] at HDI
 unfold DispPost at HDI
 go_wp2_with fail
 refine HDI.out.mono ?_
 rintro e w4 ⟨v, rfl, ho, hb4⟩
 obtain ⟨A4, c4, rfl, -, -, -⟩ := ho.reads
 have HO := Lib.hid ho
 have HB4 := Lib.hid hb4
 clear ho hb4
 go_wp2
 go_ret2
 exact disp_in HB3.out.size HB3.out ⟨_, rfl, HO.out, HB4.out⟩
def nameG (f g : List UInt8) : List UInt8 := wordsP (if f = [] then g else f)
theorem nameOf_eq (s : List UInt8) (p : Prt) : nameOf s p = nameG ((paramT (toldP s p).2 wFilename).getD []) ((paramT p.typ.params wName).getD []) := rfl
set_option maxRecDepth 100000 in
theorem name_any (s : List UInt8) (p : Prt) (A : Option Addr) (n c : Nat) (w : World) (hs : s.length ≤ 300000) (hP : Pars w w.heap.size A n p.typ.params) (hn : p.typ.params.length ≤ 1000000000) (hp1 : ∀ q ∈ p.typ.params, q.1.length ≤ 1000000000) (hp2 : ∀ q ∈ p.typ.params, q.2.length ≤ 100000000) (hT : Tabs w) :
  Calls Tryz.prog 17 #[.string (ba s), prtV p A n c] w (StrB w (nameOf s p)) := by
 rw [nameOf_eq]
 have HT := Lib.hid hT
 have HTO := Lib.hid (fun W (hW : Below w.heap.size w W) => told_any s p A n c W (by omega) (HT.out.below hW))
 have hdl := disp_lenN ((getP (headOf s p) cdName).getD [])
 have hol := told_len s p
 have hgl : ((paramT p.typ.params wName).getD []).length ≤ 100000000 := paramT_lenN hp2
 have HPA := Lib.hid (fun W (hW : Below w.heap.size w W) => param_any p.typ.params wName A n c W ((hP.below hW).more hW.size) (by rw [← hP.len]; exact hn) hp1 (by decide))
 obtain ⟨⟨dk, dp⟩, hd⟩ : ∃ d, toldP s p = d := ⟨_, rfl⟩
 have hdl2 : dp.length ≤ 1000000000 ∧ ∀ q ∈ dp, q.1.length ≤ 1000000000 ∧ q.2.length ≤ 100000000 := by
  have e : dp = (dispT ((getP (headOf s p) cdName).getD [])).2 := (congrArg Prod.snd hd).symm
  rw [e]
  exact ⟨by have := hdl.1; omega, fun q hq => by have := hdl.2 q hq; omega⟩
 simp only [hd] at HTO
 rw [hd]
 clear hd hdl hol
 dsimp only
 unfold DispPost at HTO
 have hfl : ((paramT dp wFilename).getD []).length ≤ 100000000 := paramT_lenN fun q hq => (hdl2.2 q hq).2
 have HFA := Lib.hid (fun W A' c' (hq : Pars W W.heap.size A' dp.length dp) => param_any dp wFilename A' dp.length c' W hq hdl2.1 (fun q hq => (hdl2.2 q hq).1) (by decide))
 obtain ⟨N1, hN1⟩ : ∃ k, dp.length = k := ⟨_, rfl⟩
 simp only [hN1] at HFA
 have HN1 := Lib.hid hN1
 obtain ⟨o1, ho1⟩ : ∃ o, paramT dp wFilename = o := ⟨_, rfl⟩
 rw [ho1] at hfl ⊢
 simp only [ho1] at HFA
 obtain ⟨o2, ho2⟩ : ∃ o, paramT p.typ.params wName = o := ⟨_, rfl⟩
 rw [ho2] at hgl ⊢
 simp only [ho2] at HPA
 clear ho1 ho2 hP hn hp1 hp2 hdl2 hN1
 unfold ParPost at HFA HPA
 obtain ⟨f, hf⟩ : ∃ b, o1.getD [] = b := ⟨_, rfl⟩
 obtain ⟨k1, hk1⟩ : ∃ b, o1.isSome = b := ⟨_, rfl⟩
 rw [hf] at hfl ⊢
 simp only [hf, hk1] at HFA
 clear hf hk1
 obtain ⟨g, hg⟩ : ∃ b, o2.getD [] = b := ⟨_, rfl⟩
 obtain ⟨k2, hk2⟩ : ∃ b, o2.isSome = b := ⟨_, rfl⟩
 rw [hg] at hgl ⊢
 simp only [hg, hk2] at HPA
 clear hg hk2
 have HV0 := Lib.hid (fun (h : f = []) => (show nameG f g = wordsP g by unfold nameG; rw [if_pos h]))
 have HV1 := Lib.hid (fun (h : f ≠ []) => (show nameG f g = wordsP f by unfold nameG; rw [if_neg h]))
 obtain ⟨R, hR⟩ : ∃ R, nameG f g = R := ⟨_, rfl⟩
 rw [hR]
 simp only [hR] at HV0 HV1
 clear hR
 have HW1 := Lib.hid (fun W (hW : Below w.heap.size w W) => words_any f W hfl (HT.out.below hW))
 have HW2 := Lib.hid (fun W (hW : Below w.heap.size w W) => words_any g W hgl (HT.out.below hW))
 unfold StrB at HW1 HW2
 obtain ⟨p0, p1, p2, p3, p4, ⟨p5, p6, p7⟩, p8⟩ := p
 unfold prtV at HTO ⊢
 dsimp only at HTO HPA ⊢
 have HBW := Lib.hid (show Below w.heap.size w (w.alloc (.cells #[.int .i64 p0, .int .i64 p1, .int .i64 p2, .int .i64 p3, .int .i64 p4, .string (ba p5), .string (ba p6), .slice A n c, .string (ba p8)] 26)) from (Below.refl _ _).alloc (Nat.le_refl _) _)
 have hbx := (MapKept.heap_alloc w (.cells #[.int .i64 p0, .int .i64 p1, .int .i64 p2, .int .i64 p3, .int .i64 p4, .string (ba p5), .string (ba p6), .slice A n c, .string (ba p8)] 26)).1
 have HBX := Lib.hid hbx
 have b0 := cells_at hbx 0 (u := .int .i64 p0) rfl
 have b1 := cells_at hbx 1 (u := .int .i64 p1) rfl
 have b2 := cells_at hbx 2 (u := .int .i64 p2) rfl
 have b3 := cells_at hbx 3 (u := .int .i64 p3) rfl
 have b4 := cells_at hbx 4 (u := .int .i64 p4) rfl
 have b5 := cells_at hbx 5 (u := .string (ba p5)) rfl
 have b6 := cells_at hbx 6 (u := .string (ba p6)) rfl
 have b7 := cells_at hbx 7 (u := .slice A n c) rfl
 have b8 := cells_at hbx 8 (u := .string (ba p8)) rfl
 clear hbx hT hfl hgl
 go_enter Tryz.func17, Tryz.ntmps17
 go_wp2_with fail
 refine (HTO.out _ HBW.out).mono ?_
 rintro e w2 ⟨v, rfl, ho, hb2⟩
 obtain ⟨A2, c2, rfl, -, -, hP2⟩ := ho.reads
 have HX2 := Lib.hid ((hb2.block _ (heap_lt HBX.out)).trans HBX.out)
 have HB2 := Lib.hid (HBW.out.trans (hb2.mono HBW.out.size))
 rw [HN1.out] at hP2 ⊢
 have HFB := Lib.hid (HFA.out w2 A2 c2 hP2)
 clear ho hb2 hP2 b0 b1 b2 b3 b4 b5 b6 b7 b8
 go_wp2_with fail
 refine HFB.out.mono ?_
 rintro e w3 ⟨rfl, hb3⟩
 have HX3 := Lib.hid ((hb3.block _ (heap_lt HX2.out)).trans HX2.out)
 have HB3 := Lib.hid (HB2.out.trans (hb3.mono HB2.out.size))
 have c7 := cells_at HX3.out 7 (u := .slice A n c) rfl
 clear hb3
 by_cases h0 : f = []
 ·have g0 : (ba f).toList.isEmpty = true := by rw [ba_toList, h0]; rfl
  have g1 : ((ba f).toList == []) = true := by rw [ba_toList, h0]; rfl
  have HU := Lib.hid (HV0.out h0)
  clear h0
  go_wp2_with fail
  refine (HPA.out _ HB3.out).mono ?_
  rintro e w4 ⟨rfl, hb4⟩
  have HB4 := Lib.hid (HB3.out.trans (hb4.mono HB3.out.size))
  clear hb4
  go_wp2_with fail
  refine (HW2.out _ HB4.out).mono ?_
  rintro e w5 ⟨rfl, hb5⟩
  have HB5 := Lib.hid (HB4.out.trans (hb5.mono HB4.out.size))
  clear hb5
  go_wp2
  go_ret
  exact ⟨by rw [HU.out]; rfl, HB5.out⟩
 ·have g0 : (ba f).toList.isEmpty = false := by rw [ba_toList]; simpa using h0
  have g1 : ((ba f).toList == []) = false := by rw [ba_toList]; simpa using h0
  have HU := Lib.hid (HV1.out h0)
  clear h0
  go_wp2_with fail
  refine (HW1.out _ HB3.out).mono ?_
  rintro e w5 ⟨rfl, hb5⟩
  have HB5 := Lib.hid (HB3.out.trans (hb5.mono HB3.out.size))
  clear hb5
  go_wp2
  go_ret
  exact ⟨by rw [HU.out]; rfl, HB5.out⟩
def attG (dk nm K : List UInt8) : Bool := if dk = wAttach then true else if dk ≠ wInline ∧ nm ≠ [] then true else decide (K ≠ wText) && decide (K ≠ wMulti)
theorem attachedP_eq (s : List UInt8) (p : Prt) : attachedP s p = attG (toldP s p).1 (nameOf s p) p.typ.kind := rfl
theorem attG_yes {dk nm K : List UInt8} (h : dk = wAttach) : attG dk nm K = true := if_pos h
theorem attG_name {dk nm K : List UInt8} (h : dk ≠ wAttach) (h2 : dk ≠ wInline) (h3 : nm ≠ []) : attG dk nm K = true := by unfold attG; rw [if_neg h, if_pos ⟨h2, h3⟩]
theorem attG_in {dk nm K : List UInt8} (h : dk ≠ wAttach) (h2 : dk = wInline ∨ nm = []) : attG dk nm K = (decide (K ≠ wText) && decide (K ≠ wMulti)) := by
 unfold attG
 rw [if_neg h, if_neg]
 rintro ⟨h3, h4⟩
 rcases h2 with h2 | h2
 ·exact h3 h2
 ·exact h4 h2
set_option maxRecDepth 100000 in
theorem attached_any (s : List UInt8) (p : Prt) (A : Option Addr) (n c : Nat) (w : World) (hs : s.length ≤ 300000) (hP : Pars w w.heap.size A n p.typ.params) (hn : p.typ.params.length ≤ 1000000000) (hp1 : ∀ q ∈ p.typ.params, q.1.length ≤ 1000000000) (hp2 : ∀ q ∈ p.typ.params, q.2.length ≤ 100000000) (hT : Tabs w) :
  Calls Tryz.prog 19 #[.string (ba s), prtV p A n c] w fun e w' => e = .returned (.bool (attachedP s p)) ∧ Below w.heap.size w w' := by
 rw [attachedP_eq]
 have HT := Lib.hid hT
 have HTO := Lib.hid (fun W (hW : Below w.heap.size w W) => told_any s p A n c W (by omega) (HT.out.below hW))
 have HNA := Lib.hid (fun W (hW : Below w.heap.size w W) => name_any s p A n c W hs ((hP.below hW).more hW.size) hn hp1 hp2 (HT.out.below hW))
 obtain ⟨⟨dk, dp⟩, hd⟩ : ∃ d, toldP s p = d := ⟨_, rfl⟩
 simp only [hd] at HTO
 rw [hd]
 dsimp only
 obtain ⟨nm, hnm⟩ : ∃ d, nameOf s p = d := ⟨_, rfl⟩
 simp only [hnm] at HNA
 rw [hnm]
 clear hd hnm hP hn hp1 hp2
 unfold DispPost at HTO
 unfold StrB at HNA
 obtain ⟨p0, p1, p2, p3, p4, ⟨p5, p6, p7⟩, p8⟩ := p
 unfold prtV at HTO HNA ⊢
 dsimp only at HTO HNA ⊢
 have HY := Lib.hid (fun h => attG_yes (dk := dk) (nm := nm) (K := p5) h)
 have HM := Lib.hid (fun h h2 h3 => attG_name (dk := dk) (nm := nm) (K := p5) h h2 h3)
 have HI := Lib.hid (fun h h2 => attG_in (dk := dk) (nm := nm) (K := p5) h h2)
 obtain ⟨R, hR⟩ : ∃ R, attG dk nm p5 = R := ⟨_, rfl⟩
 rw [hR]
 simp only [hR] at HY HM HI
 clear hR
 have HBW := Lib.hid (show Below w.heap.size w (w.alloc (.cells #[.int .i64 p0, .int .i64 p1, .int .i64 p2, .int .i64 p3, .int .i64 p4, .string (ba p5), .string (ba p6), .slice A n c, .string (ba p8)] 26)) from (Below.refl _ _).alloc (Nat.le_refl _) _)
 have hbx := (MapKept.heap_alloc w (.cells #[.int .i64 p0, .int .i64 p1, .int .i64 p2, .int .i64 p3, .int .i64 p4, .string (ba p5), .string (ba p6), .slice A n c, .string (ba p8)] 26)).1
 have HBX := Lib.hid hbx
 have b0 := cells_at hbx 0 (u := .int .i64 p0) rfl
 have b1 := cells_at hbx 1 (u := .int .i64 p1) rfl
 have b2 := cells_at hbx 2 (u := .int .i64 p2) rfl
 have b3 := cells_at hbx 3 (u := .int .i64 p3) rfl
 have b4 := cells_at hbx 4 (u := .int .i64 p4) rfl
 have b5 := cells_at hbx 5 (u := .string (ba p5)) rfl
 have b6 := cells_at hbx 6 (u := .string (ba p6)) rfl
 have b7 := cells_at hbx 7 (u := .slice A n c) rfl
 have b8 := cells_at hbx 8 (u := .string (ba p8)) rfl
 clear hbx hT hs
 go_enter Tryz.func19, Tryz.ntmps19
 go_wp2_with fail
 refine (HTO.out _ HBW.out).mono ?_
 rintro e w2 ⟨v, rfl, ho, hb2⟩
 obtain ⟨A2, c2, rfl, -, -, -⟩ := ho.reads
 have HX2 := Lib.hid ((hb2.block _ (heap_lt HBX.out)).trans HBX.out)
 have HB2 := Lib.hid (HBW.out.trans (hb2.mono HBW.out.size))
 obtain ⟨N1, hN1⟩ : ∃ k, dp.length = k := ⟨_, rfl⟩
 rw [hN1]
 clear ho hb2 hN1 b0 b1 b2 b3 b4 b5 b6 b7 b8
 by_cases hA : dk = wAttach
 ·have gA : ((ba dk).toList == [97, 116, 116, 97, 99, 104, 109, 101, 110, 116]) = true := by rw [ba_toList, hA]; rfl
  have HU := Lib.hid (HY.out hA)
  clear hA
  go_wp2
  go_ret
  exact ⟨by rw [HU.out]; rfl, HB2.out⟩
 ·have gA : ((ba dk).toList == [97, 116, 116, 97, 99, 104, 109, 101, 110, 116]) = false := by rw [ba_toList]; show (dk == wAttach) = false; simpa using hA
  by_cases hN : dk = wInline
  ·have gN : ((ba dk).toList == [105, 110, 108, 105, 110, 101]) = true := by rw [ba_toList, hN]; rfl
   have HU := Lib.hid (HI.out hA (.inl hN))
   have c5 := cells_at HX2.out 5 (u := .string (ba p5)) rfl
   clear hA hN
   by_cases hK : p5 = wText
   ·have gK : ((ba p5).toList == [116, 101, 120, 116]) = true := by rw [ba_toList, hK]; rfl
    have gK2 : ((ba p5).toList != [116, 101, 120, 116]) = false := by rw [ba_toList, hK]; rfl
    have HR := Lib.hid (show R = false by rw [HU.out, hK]; rfl)
    clear hK
    go_wp2
    go_ret
    exact ⟨by rw [HR.out]; rfl, HB2.out⟩
   ·have gK : ((ba p5).toList == [116, 101, 120, 116]) = false := by rw [ba_toList]; show (p5 == wText) = false; simpa using hK
    have gK2 : ((ba p5).toList != [116, 101, 120, 116]) = true := by rw [ba_toList]; show (p5 != wText) = true; simpa using hK
    by_cases hM : p5 = wMulti
    ·have gM : ((ba p5).toList == [109, 117, 108, 116, 105, 112, 97, 114, 116]) = true := by rw [ba_toList, hM]; rfl
     have gM2 : ((ba p5).toList != [109, 117, 108, 116, 105, 112, 97, 114, 116]) = false := by rw [ba_toList, hM]; rfl
     have HR := Lib.hid (show R = false by rw [HU.out, hM]; rfl)
     clear hK hM
     go_wp2
     go_ret
     exact ⟨by rw [HR.out]; rfl, HB2.out⟩
    ·have gM : ((ba p5).toList == [109, 117, 108, 116, 105, 112, 97, 114, 116]) = false := by rw [ba_toList]; show (p5 == wMulti) = false; simpa using hM
     have gM2 : ((ba p5).toList != [109, 117, 108, 116, 105, 112, 97, 114, 116]) = true := by rw [ba_toList]; show (p5 != wMulti) = true; simpa using hM
     have HR := Lib.hid (show R = true by rw [HU.out]; simp [hK, hM])
     clear hK hM
     go_wp2
     go_ret
     exact ⟨by rw [HR.out]; rfl, HB2.out⟩
  ·have gN : ((ba dk).toList == [105, 110, 108, 105, 110, 101]) = false := by rw [ba_toList]; show (dk == wInline) = false; simpa using hN
   have b0 := cells_at HX2.out 0 (u := .int .i64 p0) rfl
   have b1 := cells_at HX2.out 1 (u := .int .i64 p1) rfl
   have b2 := cells_at HX2.out 2 (u := .int .i64 p2) rfl
   have b3 := cells_at HX2.out 3 (u := .int .i64 p3) rfl
   have b4 := cells_at HX2.out 4 (u := .int .i64 p4) rfl
   have b5 := cells_at HX2.out 5 (u := .string (ba p5)) rfl
   have b6 := cells_at HX2.out 6 (u := .string (ba p6)) rfl
   have b7 := cells_at HX2.out 7 (u := .slice A n c) rfl
   have b8 := cells_at HX2.out 8 (u := .string (ba p8)) rfl
   by_cases h0 : nm = []
   ·have g0 : (ba nm).toList.isEmpty = true := by rw [ba_toList, h0]; rfl
    have g1 : ((ba nm).toList != []) = false := by rw [ba_toList, h0]; rfl
    have HU := Lib.hid (HI.out hA (.inr h0))
    clear hA hN h0
    go_wp2_with fail
    refine (HNA.out _ HB2.out).mono ?_
    rintro e w3 ⟨rfl, hb3⟩
    have HX3 := Lib.hid ((hb3.block _ (heap_lt HX2.out)).trans HX2.out)
    have HB3 := Lib.hid (HB2.out.trans (hb3.mono HB2.out.size))
    clear hb3 b0 b1 b2 b3 b4 b5 b6 b7 b8
    have c5 := cells_at HX3.out 5 (u := .string (ba p5)) rfl
    by_cases hK : p5 = wText
    ·have gK : ((ba p5).toList == [116, 101, 120, 116]) = true := by rw [ba_toList, hK]; rfl
     have gK2 : ((ba p5).toList != [116, 101, 120, 116]) = false := by rw [ba_toList, hK]; rfl
     have HR := Lib.hid (show R = false by rw [HU.out, hK]; rfl)
     clear hK
     go_wp2
     go_ret
     exact ⟨by rw [HR.out]; rfl, HB3.out⟩
    ·have gK : ((ba p5).toList == [116, 101, 120, 116]) = false := by rw [ba_toList]; show (p5 == wText) = false; simpa using hK
     have gK2 : ((ba p5).toList != [116, 101, 120, 116]) = true := by rw [ba_toList]; show (p5 != wText) = true; simpa using hK
     by_cases hM : p5 = wMulti
     ·have gM : ((ba p5).toList == [109, 117, 108, 116, 105, 112, 97, 114, 116]) = true := by rw [ba_toList, hM]; rfl
      have gM2 : ((ba p5).toList != [109, 117, 108, 116, 105, 112, 97, 114, 116]) = false := by rw [ba_toList, hM]; rfl
      have HR := Lib.hid (show R = false by rw [HU.out, hM]; rfl)
      clear hK hM
      go_wp2
      go_ret
      exact ⟨by rw [HR.out]; rfl, HB3.out⟩
     ·have gM : ((ba p5).toList == [109, 117, 108, 116, 105, 112, 97, 114, 116]) = false := by rw [ba_toList]; show (p5 == wMulti) = false; simpa using hM
      have gM2 : ((ba p5).toList != [109, 117, 108, 116, 105, 112, 97, 114, 116]) = true := by rw [ba_toList]; show (p5 != wMulti) = true; simpa using hM
      have HR := Lib.hid (show R = true by rw [HU.out]; simp [hK, hM])
      clear hK hM
      go_wp2
      go_ret
      exact ⟨by rw [HR.out]; rfl, HB3.out⟩
   ·have g0 : (ba nm).toList.isEmpty = false := by rw [ba_toList]; simpa using h0
    have g1 : ((ba nm).toList != []) = true := by rw [ba_toList]; simpa using h0
    have HU := Lib.hid (HM.out hA hN h0)
    clear hA hN h0
    go_wp2_with fail
    refine (HNA.out _ HB2.out).mono ?_
    rintro e w3 ⟨rfl, hb3⟩
    have HB3 := Lib.hid (HB2.out.trans (hb3.mono HB2.out.size))
    clear hb3 b0 b1 b2 b3 b4 b5 b6 b7 b8
    go_wp2
    go_ret
    exact ⟨by rw [HU.out]; rfl, HB3.out⟩
end Go.Proofs.YthidbmeaccpjdaaGreatDoor
section
namespace Go.Proofs.YthidbmeaccpjdaaGreatDoor
open Go.RowKit
set_option linter.unusedVariables false
theorem openM_pre (s : List UInt8) : ∀ (f : Nat) (st : List Prt × Nat) (p : Prt), ∃ t, (openM s f st p).1 = st.1 ++ t
 | 0, st, p => ⟨[], by rw [List.append_nil]; rfl⟩
 | f + 1, st, p => by
  rw [openM_succ]
  split
  ·exact ⟨[p], rfl⟩
  ·have key : ∀ (l : List (Nat × Nat)) (st2 : List Prt × Nat), ∃ t, (openL s f st.1.length (p.depth + 1) (digestB p) l st2).1 = st2.1 ++ t := by
    intro l
    induction l with
    | nil => exact fun st2 => ⟨[], by rw [List.append_nil]; rfl⟩
    | cons k r ih =>
     intro st2
     obtain ⟨t1, h1⟩ := openM_pre s f st2 (readPt s st.1.length (p.depth + 1) k.1 k.2 (digestB p))
     obtain ⟨t2, h2⟩ := ih (openM s f st2 (readPt s st.1.length (p.depth + 1) k.1 k.2 (digestB p)))
     refine ⟨t1 ++ t2, ?_⟩
     rw [← List.append_assoc, ← h1, ← h2]
     rfl
   obtain ⟨t, ht⟩ := key (innerP s p) (st.1 ++ [p], st.2 + (innerP s p).length)
   exact ⟨[p] ++ t, by rw [ht, List.append_assoc]⟩
theorem parts_head (s : List UInt8) : ∃ t, partsP s = readPt s (-1) 0 0 s.length false :: t := by
 unfold partsP
 rw [openM_succ]
 split
 ·exact ⟨[], rfl⟩
 ·have key : ∀ (l : List (Nat × Nat)) (u d : Int) (dg : Bool) (st2 : List Prt × Nat), ∃ t, (openL s 8 u d dg l st2).1 = st2.1 ++ t := by
   intro l
   induction l with
   | nil => exact fun _ _ _ st2 => ⟨[], by rw [List.append_nil]; rfl⟩
   | cons k r ih =>
    intro u d dg st2
    obtain ⟨t1, h1⟩ := openM_pre s 8 st2 (readPt s u d k.1 k.2 dg)
    obtain ⟨t2, h2⟩ := ih u d dg (openM s 8 st2 (readPt s u d k.1 k.2 dg))
    refine ⟨t1 ++ t2, ?_⟩
    rw [← List.append_assoc, ← h1, ← h2]
    rfl
  obtain ⟨t, ht⟩ := key (innerP s (readPt s (-1) 0 0 s.length false)) 0 (0 + 1) (digestB (readPt s (-1) 0 0 s.length false)) ([] ++ [readPt s (-1) 0 0 s.length false], 1 + (innerP s (readPt s (-1) 0 0 s.length false)).length)
  exact ⟨t, ht⟩
structure HeadSays (C : List UInt8) (k : Typ) (co : List UInt8) : Prop where
 shut : shutF C.length C = true
 len : (headP C).2 = C.length
 kind : kindP14 (headP C).1 false = k
 code : codeP ((getP (headP C).1 cteName).getD []) = co
variable {C X co : List UInt8} {k : Typ}
theorem HeadSays.read (h : HeadSays C k co) : readPt (C ++ X) (-1) 0 0 (C ++ X).length false = ⟨-1, 0, 0, (C.length : Nat), ((C ++ X).length : Nat), k, co⟩ := by
 unfold readPt
 rw [List.take_length, List.drop_zero, (head_pre _ C X h.shut).1]
 dsimp only
 rw [h.len, h.kind, h.code, Nat.zero_add]
 rfl
theorem HeadSays.fits (h : HeadSays C k co) : fitsP (C ++ X).length ⟨-1, 0, 0, (C.length : Nat), ((C ++ X).length : Nat), k, co⟩ = true := by
 unfold fitsP
 rw [decide_eq_true_iff, List.length_append]
 exact ⟨Int.le_refl _, by show (0 : Int) ≤ (C.length : Nat); omega, by show ((C.length : Nat) : Int) ≤ ((C.length + X.length : Nat) : Int); omega, by show (((C.length + X.length : Nat) : Int)) ≤ _; omega⟩
theorem HeadSays.body (h : HeadSays C k co) : bodyOf (C ++ X) ⟨-1, 0, 0, (C.length : Nat), ((C ++ X).length : Nat), k, co⟩ = X := by
 unfold bodyOf
 rw [if_pos h.fits]
 show List.drop (Int.toNat (C.length : Nat)) (List.take (Int.toNat ((C ++ X).length : Nat)) (C ++ X)) = X
 rw [Int.toNat_natCast, Int.toNat_natCast, List.take_length, List.drop_left]
theorem HeadSays.head (h : HeadSays C k co) : headOf (C ++ X) ⟨-1, 0, 0, (C.length : Nat), ((C ++ X).length : Nat), k, co⟩ = (headP C).1 := by
 unfold headOf
 rw [if_pos h.fits]
 show (headP (List.drop (Int.toNat (0 : Int)) (List.take (Int.toNat ((C ++ X).length : Nat)) (C ++ X)))).1 = _
 rw [Int.toNat_natCast, List.take_length]
 show (headP (C ++ X)).1 = _
 rw [(head_pre _ C X h.shut).1]
end Go.Proofs.YthidbmeaccpjdaaGreatDoor
end
