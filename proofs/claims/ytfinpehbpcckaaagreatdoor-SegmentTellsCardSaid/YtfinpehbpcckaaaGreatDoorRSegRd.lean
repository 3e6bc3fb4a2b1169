/- Layer 34: the reference's Read (printed by gen_rread.py). -/
import Derived.Test.YtfinpehbpcckaaaGreatDoorRSegY
import Derived.Test.YtfinpehbpcckaaaGreatDoorM16
import Derived.Test.YtfinpehbpcckaaaGreatDoorM18
import Derived.Test.YtfinpehbpcckaaaGreatDoorM06
namespace Go.Proofs.YtfinpehbpcckaaaGreatDoor
open Go.RowKit
set_option linter.unusedVariables false

theorem rrdLen_in {w : World} {rb : Nat} {r : Rd} (h : RRdIn w rb r) : rdLen rb w = r.s.length := by
  unfold rdLen; rw [h.1]; simp [ba_size]
/-- How many terms a segment's bytes promise. -/
theorem read_n {l : List UInt8} {ts : List Trm} {docs : List Int} {n : Nat} (hn : (Rd.nums ⟨l, false⟩).2.num.1 = n) (h : rightP ⟨ts, docs⟩ = true) (hf : SegFew ⟨ts, docs⟩) (he : bytesP ⟨ts, docs⟩ = l) : ts.length = n := by
  obtain ⟨h1, h2⟩ := right_fit h hf
  have hb : bytesP ⟨ts, docs⟩ = vints docs ++ (vnum ts.length ++ ts.flatMap tBytes) := by
    unfold bytesP; rw [if_pos h, List.append_assoc]
  have hn1 := nums_vints docs (vnum ts.length ++ ts.flatMap tBytes) h2 (by have := hf.docs; show docs.length < _; have h5 : docs.length ≤ 1000000 := this; omega)
  have hm := num_of (n := ts.length) (t := ts.flatMap tBytes) (b := false) (by have h5 : ts.length ≤ 5000 := hf.terms; omega)
  rw [← he, hb, hn1] at hn
  dsimp only at hn
  rw [hm] at hn
  exact hn
def RRSt (w3 : World) (rb gs : Nat) (vd : Value) (n L : Nat) (Q : List Trm × Rd) (k : Nat) (r : Rd) (ts : List Trm) (v : Value) (f : Nat) (wr : World) : Prop :=
  RRdIn wr rb r ∧ wr.heap[gs]? = some (.cells #[v, vd] 28 (0, 0)) ∧ OwnTrms wr (gs + 1) v ts ∧ Off (fun k => k = rb ∨ gs ≤ k) w3 wr ∧ r.s.length ≤ f ∧ readL f n r ts = Q ∧ ts.length + r.s.length ≤ L ∧ ts.length = k ∧ k ≤ n
def RRdRel (w3 : World) (rb gs : Nat) (vd : Value) (n L : Nat) (Q : List Trm × Rd) (k : Nat) (wr : World) : Prop := ∃ r ts v f, RRSt w3 rb gs vd n L Q k r ts v f wr
theorem box3 {w : World} {g : Nat} {x y z : Value} {t : TypeId} (h : w.heap[g]? = some (.cells #[x, y, z] t (0, 0))) : w.cell? ⟨g, 0, none⟩ = some x ∧ w.cell? ⟨g, 1, none⟩ = some y ∧ w.cell? ⟨g, 2, none⟩ = some z ∧ w.frozen? ⟨g, 1, none⟩ = false ∧ w.frozen? ⟨g, 2, none⟩ = false := by
  refine ⟨by simp [World.cell?, h], by simp [World.cell?, h], by simp [World.cell?, h], by simp [World.frozen?, h], by simp [World.frozen?, h]⟩
theorem set3_1 {w : World} {g : Nat} {x y z v : Value} {t : TypeId} (h : w.heap[g]? = some (.cells #[x, y, z] t (0, 0))) : (w.setCell ⟨g, 1, none⟩ v).heap[g]? = some (.cells #[x, v, z] t (0, 0)) := heap_setCell_same w g 1 _ t v h
theorem set3_2 {w : World} {g : Nat} {x y z v : Value} {t : TypeId} (h : w.heap[g]? = some (.cells #[x, y, z] t (0, 0))) : (w.setCell ⟨g, 2, none⟩ v).heap[g]? = some (.cells #[x, y, v] t (0, 0)) := heap_setCell_same w g 2 _ t v h
set_option maxRecDepth 100000 in
set_option maxHeartbeats 16000000 in
theorem rseg_read (l : List UInt8) (w : World) (hlen : l.length ≤ 1000000000) (hf : SegFew (readRaw l).1) :
    Calls Tryz.prog 18 #[.string (ba l)] w (ReadPost w l) := by
  have HF := Lib.hid hf
  clear hf
  go_enter Tryz.func18, Tryz.ntmps18
  have hb0 : Below w.heap.size w (w.alloc (.cells #[.slice none 0 0, .slice none 0 0] 28)) := (Below.refl _ _).alloc (Nat.le_refl _) _
  have hg0 : (w.alloc (.cells #[.slice none 0 0, .slice none 0 0] 28)).heap[w.heap.size]? = some (.cells #[.slice none 0 0, .slice none 0 0] 28 (0, 0)) := (MapKept.heap_alloc w _).1
  have hz0 : (w.alloc (.cells #[.slice none 0 0, .slice none 0 0] 28)).heap.size = w.heap.size + 1 := by simp
  go_wp2_with fail
  refine (rrd_open l _ (by unfold maxLen; omega)).mono ?_
  rintro e w1 ⟨rb, hrb, rfl, hrd1, hb1⟩
  have hrw1 := hrd1.lt
  go_wp2_with fail
  refine (rrd_nums rb ⟨l, false⟩ w1 hrd1 (fun h => by cases h) (by show l.length ≤ _; exact hlen)).mono ?_
  rintro e w2 ⟨vd, rfl, hdo, hrd2, ho2⟩
  obtain ⟨D, dc, rfl, hd1, hd2, hdi⟩ := hdo.ints
  have hdlen := (Rd.nums ⟨l, false⟩).1.length
  obtain ⟨docs, hdocs⟩ : ∃ q, (Rd.nums ⟨l, false⟩).1 = q := ⟨_, rfl⟩
  obtain ⟨r1, hr1⟩ : ∃ q, (Rd.nums ⟨l, false⟩).2 = q := ⟨_, rfl⟩
  have hr1l : r1.s.length ≤ l.length := by rw [← hr1]; exact Rd.nums_le ⟨l, false⟩
  rw [hdocs] at hdo hd1 hdi ⊢
  rw [hr1] at hrd2
  have HDOCS := Lib.hid hdocs
  have HR1 := Lib.hid hr1
  obtain ⟨m, hm⟩ : ∃ m, docs.length = m := ⟨_, rfl⟩
  have HM := Lib.hid hm
  rw [hm] at hd1 hdi hdo ⊢
  obtain ⟨gs, hgs⟩ : ∃ gs, w2.heap.size = gs := ⟨_, rfl⟩
  have hbx : (w2.alloc (.cells #[.slice none 0 0, .slice D m dc] 28)).heap[gs]? = some (.cells #[.slice none 0 0, .slice D m dc] 28 (0, 0)) := by rw [← hgs]; exact (MapKept.heap_alloc w2 _).1
  have hzg : (w2.alloc (.cells #[.slice none 0 0, .slice D m dc] 28)).heap.size = gs + 1 := by rw [← hgs]; simp
  have HZG := Lib.hid hzg
  have hs12 := ho2.size
  have hrdg : RRdIn (w2.alloc (.cells #[.slice none 0 0, .slice D m dc] 28)) rb r1 := hrd2.block (heap_alloc_old w2 _ hrd2.lt)
  have HB1 := Lib.hid (hb0.trans (hb1.mono (by omega)))
  have HG1 := Lib.hid ((hb1.block w.heap.size (by omega)).trans hg0)
  have hwrb : w.heap.size < rb := by omega
  have HO2 := Lib.hid ho2
  have HDO := Lib.hid hdo
  have HDI := Lib.hid hdi
  have hs1 : w.heap.size + 1 ≤ w1.heap.size := by have := hb1.size; omega
  go_wp2_with fail
  refine (rrd_num rb r1 _ hrdg).mono ?_
  rintro e w3 ⟨rfl, hrd3, ho3⟩
  have hbx3 := (ho3.block gs (by omega) (by show ¬ gs = rb; have := hrd2.lt; omega)).trans hbx
  have hs3 := ho3.size
  obtain ⟨n, hn⟩ : ∃ n, r1.num.1 = n := ⟨_, rfl⟩
  obtain ⟨r2, hr2⟩ : ∃ q, r1.num.2 = q := ⟨_, rfl⟩
  have hnb := r1.num_bound
  rw [hn, hr2] at hnb
  rw [hr2] at hrd3
  rw [hn]
  have hn63 : n < 9223372036854775808 := hnb.1
  have hr2l : r2.s.length ≤ l.length := by omega
  have HRAW := Lib.hid (show readRaw l = (⟨(readL l.length n r2 []).1, docs⟩, (readL l.length n r2 []).2) by
    show ((⟨(readL l.length (Rd.nums ⟨l, false⟩).2.num.1 (Rd.nums ⟨l, false⟩).2.num.2 []).1, (Rd.nums ⟨l, false⟩).1⟩ : Seg), (readL l.length (Rd.nums ⟨l, false⟩).2.num.1 (Rd.nums ⟨l, false⟩).2.num.2 []).2) = _
    rw [HDOCS.out, HR1.out, hn, hr2])
  have HNN := Lib.hid (show (Rd.nums ⟨l, false⟩).2.num.1 = n by rw [HR1.out]; exact hn)
  have HO3 := Lib.hid ho3
  have HINI := Lib.hid (show RRdRel w3 rb gs (.slice D m dc) n l.length (readL l.length n r2 []) 0 w3 from ⟨r2, [], .slice none 0 0, l.length, hrd3, hbx3, OwnTrms.nil_ _ _, Off.refl _ _, hr2l, rfl, by simpa using hr2l, rfl, Nat.zero_le _⟩)
  obtain ⟨Q, hQ⟩ : ∃ Q, readL l.length n r2 [] = Q := ⟨_, rfl⟩
  rw [hQ] at HRAW HINI
  have hrg : rb < gs := by have := hrd2.lt; omega
  have HGS := Lib.hid hgs
  have hwg : w.heap.size < gs := by omega
  have hs3g : gs + 1 ≤ w3.heap.size := by omega
  clear hb0 hg0 hz0 hrd1 hb1 hdo hrd2 ho2 hdi hdocs hr1 hm hbx hzg hrdg ho3 hbx3 hn hr2 hnb hrd3 hQ hr1l hdlen hgs
  go_wp2
  go_loopw [7] (fun i wr => ∃ k : Nat, i = .int .i64 (k : Int) ∧ Hid (RRdRel w3 rb gs (.slice D m dc) n l.length Q k wr)) (fun _ wr => rdLen rb wr)
  case atStart => exact ⟨0, rfl, HINI.out⟩
  case round =>
    obtain ⟨k, rfl, hrel⟩ := hrel
    obtain ⟨r, ts, v, f, hrd, hbox, hown, hoff, hfl, hrl, hll, hk, hkn9⟩ := hrel.out
    have HRLN := Lib.hid (rrdLen_in hrd)
    have hsz := hoff.size
    obtain ⟨A, c, rfl, hc1, hc2⟩ := hown.shape
    obtain ⟨u, hu⟩ : ∃ u, r.s.length = u := ⟨_, rfl⟩
    obtain ⟨b0, b1, bf0, bf1⟩ := box0 hbox
    rw [hk] at b0 hc1 hll
    rw [hu] at hll hfl
    have HK := Lib.hid hk
    have HU := Lib.hid hu
    have HRD := Lib.hid hrd
    have HBOX := Lib.hid hbox
    have HOWN := Lib.hid hown
    have HOFF := Lib.hid hoff
    have HRL := Lib.hid hrl
    have hgw : gs < wr.heap.size := by omega
    clear hrd hbox hown hoff hrl hk hu bf0 bf1
    by_cases hkn : k < n
    · have hkn2 : (k : Int) < (n : Int) := by omega
      by_cases hu0 : 0 < u
      · have hu1 : (0 : Int) < (u : Int) := by omega
        have HNE := Lib.hid (show r.s ≠ [] by intro e; have := HU.out; rw [e] at this; simp at this; omega)
        obtain ⟨hgo, hgf⟩ := readL_go (n := n) (r := r) (ts := ts) (f := f) ⟨by rw [HK.out]; exact hkn, HNE.out⟩ (by rw [HU.out]; exact hfl)
        have hless := tRead_less r HNE.out
        have HGO := Lib.hid hgo
        have HGF := Lib.hid hgf
        have HLESS := Lib.hid hless
        have hnb := r.num_bound
        have HRNUM := Lib.hid (fun W (h : RRdIn W rb r) => rrd_num rb r W h)
        have htr : tRead r = (⟨r.num.1, r.num.2.text.1, r.num.2.text.2.text.1⟩, r.num.2.text.2.text.2) := rfl
        obtain ⟨n1, hn1⟩ : ∃ q, r.num.1 = q := ⟨_, rfl⟩
        obtain ⟨ra, hra⟩ : ∃ q, r.num.2 = q := ⟨_, rfl⟩
        unfold RNumPost at HRNUM
        rw [hn1, hra] at htr
        simp only [hn1, hra] at HRNUM
        have hn1b : n1 < 9223372036854775808 := by rw [← hn1]; exact hnb.1
        have HT1 := Lib.hid (fun W (h : RRdIn W rb ra) => rrd_text rb ra W h)
        obtain ⟨x, hx⟩ : ∃ q, ra.text.1 = q := ⟨_, rfl⟩
        obtain ⟨rx, hrx⟩ : ∃ q, ra.text.2 = q := ⟨_, rfl⟩
        unfold RTextPost at HT1
        rw [hx, hrx] at htr
        simp only [hx, hrx] at HT1
        have HT2 := Lib.hid (fun W (h : RRdIn W rb rx) => rrd_text rb rx W h)
        obtain ⟨z, hz⟩ : ∃ q, rx.text.1 = q := ⟨_, rfl⟩
        obtain ⟨rz, hrz⟩ : ∃ q, rx.text.2 = q := ⟨_, rfl⟩
        unfold RTextPost at HT2
        rw [hz, hrz] at htr
        simp only [hz, hrz] at HT2
        have HTR := Lib.hid htr
        clear hgo hgf hless htr hn1 hra hx hrx hz hrz hnb
        have hfok : FieldOk ⟨(n1 : Int), x, z⟩ := ⟨by show -9223372036854775808 ≤ (n1 : Int); omega, by show (n1 : Int) ≤ 9223372036854775807; omega⟩
        have HFO := Lib.hid hfok
        clear hfok
        go_wp2_with fail
        refine (rrd_left rb r wr HRD.out).mono ?_
        rintro e w6 ⟨rfl, rfl⟩
        rw [HU.out]
        go_wp2_with fail
        refine (HRNUM.out wr HRD.out).mono ?_
        rintro e v1 ⟨rfl, hr1', ho1'⟩
        have HV1 := Lib.hid ho1'
        have HBX1 := Lib.hid ((ho1'.block gs hgw (by show ¬ gs = rb; omega)).trans HBOX.out)
        have HOW1 := Lib.hid (HOWN.out.block (w' := v1) fun g e => ho1'.block g (HOWN.out.row.lt g e).2 (row_ne HOWN.out (by omega) g e))
        obtain ⟨bt, hbt⟩ : ∃ bt, v1.heap.size = bt := ⟨_, rfl⟩
        have hgbt : gs < bt := by have := ho1'.size; omega
        have hx1 : (v1.alloc (.cells #[.int .i64 (n1 : Int), .string ⟨#[]⟩, .string ⟨#[]⟩] 47)).heap[bt]? = some (.cells #[.int .i64 (n1 : Int), .string ⟨#[]⟩, .string ⟨#[]⟩] 47 (0, 0)) := by rw [← hbt]; exact (MapKept.heap_alloc v1 _).1
        have hx1o : ∀ i, i < bt → (v1.alloc (.cells #[.int .i64 (n1 : Int), .string ⟨#[]⟩, .string ⟨#[]⟩] 47)).heap[i]? = v1.heap[i]? := fun i hi => heap_alloc_old v1 _ (by rw [hbt]; exact hi)
        have hx1z : (v1.alloc (.cells #[.int .i64 (n1 : Int), .string ⟨#[]⟩, .string ⟨#[]⟩] 47)).heap.size = bt + 1 := by rw [← hbt]; simp
        have hrbt : rb < bt := by omega
        have HR1' := Lib.hid ((show RRdIn v1 rb ra from hr1').block (hx1o rb hrbt))
        have HX1O := Lib.hid hx1o
        have HO1A := Lib.hid (HV1.out.mono (G := fun i => i = rb ∨ bt ≤ i) (fun i _ e => .inl e))
        have HO1B := Lib.hid (HO1A.out.alloc (.cells #[.int .i64 (n1 : Int), .string ⟨#[]⟩, .string ⟨#[]⟩] 47))
        have HBT := Lib.hid hbt
        have HX1Z := Lib.hid hx1z
        clear hr1' ho1' hx1o hx1z hbt
        go_wp2_with fail
        refine (HT1.out _ HR1'.out).mono ?_
        rintro e v2 ⟨rfl, hr2', ho2'⟩
        rw [HBT.out]
        have hx2 := (ho2'.block bt (by rw [HX1Z.out]; omega) (by show ¬ bt = rb; omega)).trans hx1
        obtain ⟨u0, u1, u2, uf1, uf2⟩ := box3 hx2
        have hx3 := set3_1 (v := .string (ba x)) hx2
        obtain ⟨t0, t1, t2, tf1, tf2⟩ := box3 hx3
        have HV2 := Lib.hid (HO1B.out.trans (ho2'.mono fun i _ e => .inl e))
        have hz2 : bt + 1 ≤ v2.heap.size := by have := ho2'.size; rw [HX1Z.out] at this; exact this
        have HR2' := Lib.hid ((show RRdIn v2 rb rx from hr2').block (w' := v2.setCell ⟨bt, 1, none⟩ (.string (ba x))) (heap_setCell_other v2 ⟨bt, 1, none⟩ rb _ (by show ¬ rb = bt; omega)))
        have HV3 := Lib.hid (HV2.out.setCell (p := ⟨bt, 1, none⟩) (.inl (.inr (Nat.le_refl _))) (.string (ba x)))
        have hz3 : bt + 1 ≤ (v2.setCell ⟨bt, 1, none⟩ (.string (ba x))).heap.size := by simpa [World.setCell] using hz2
        clear hr2' ho2' hx1
        go_wp2_with fail
        refine (HT2.out _ HR2'.out).mono ?_
        rintro e v4 ⟨rfl, hr3', ho3'⟩
        have hx4 := (ho3'.block bt (by omega) (by show ¬ bt = rb; omega)).trans hx3
        clear u0 u1 u2 uf1 uf2 t0 t1 t2 tf1 tf2
        obtain ⟨u0, u1, u2, uf1, uf2⟩ := box3 hx4
        have hx5 := set3_2 (v := .string (ba z)) hx4
        obtain ⟨t0, t1, t2, tf1, tf2⟩ := box3 hx5
        have HV4 := Lib.hid (HV3.out.trans (ho3'.mono fun i _ e => .inl e))
        have hz4 : bt + 1 ≤ v4.heap.size := by have := ho3'.size; omega
        have HR3' := Lib.hid ((show RRdIn v4 rb rz from hr3').block (w' := v4.setCell ⟨bt, 2, none⟩ (.string (ba z))) (heap_setCell_other v4 ⟨bt, 2, none⟩ rb _ (by show ¬ rb = bt; omega)))
        have HV5 := Lib.hid (HV4.out.setCell (p := ⟨bt, 2, none⟩) (.inl (.inr (Nat.le_refl _))) (.string (ba z)))
        have hz5 : bt + 1 ≤ (v4.setCell ⟨bt, 2, none⟩ (.string (ba z))).heap.size := by simpa [World.setCell] using hz4
        clear hr3' ho3' hx2 hx3
        have p4 : v4.cell? ⟨gs, 0, none⟩ = some (.slice A k c) := by
          have h := (box0 ((HV4.out.block gs hgw (by rintro (e | e) <;> omega)).trans HBOX.out)).1
          rw [HK.out] at h
          exact h
        have hgbt1 : ¬ bt = gs := by omega
        have hgbt2 : ¬ gs = bt := by omega
        have HBX5 := Lib.hid ((HV5.out.block gs hgw (by rintro (e | e) <;> omega)).trans HBOX.out)
        have HOW5 := Lib.hid (HOWN.out.block (w' := (v4.setCell ⟨bt, 2, none⟩ (.string (ba z)))) fun g e => HV5.out.block g (HOWN.out.row.lt g e).2 (by
          have h1 := row_ne HOWN.out (show rb < gs + 1 by omega) g e
          have h2 := (HOWN.out.row.lt g e).2
          have h3 := HV1.out.size
          have h4 := HBT.out
          rintro (e | e)
          · exact h1 e
          · omega))
        have p3 : (v4.setCell ⟨bt, 2, none⟩ (.string (ba z))).cell? ⟨gs, 0, none⟩ = some (.slice A k c) := by
          have h := (box0 HBX5.out).1
          rw [HK.out] at h
          exact h
        clear hx4 hx5 tf1 tf2
        go_wp2_with (refine wpList_pushTrm (W := (v4.setCell ⟨bt, 2, none⟩ (.string (ba z)))) (show OwnTrms (v4.setCell ⟨bt, 2, none⟩ (.string (ba z))) (gs + 1) (.slice A k c) ts by have := HOW5.out; rw [HK.out] at this; exact this) (by omega) HFO.out (by rw [HK.out]; omega) rfl (.tmp 36) (.tmp 38) 1 rfl rfl (by first | rfl | (rw [World.size_setCell]; rfl)) ?_)
        intro v' w8 hown8 hg8
        obtain ⟨A8, c8, hv8, -, -⟩ := hown8.shape
        rw [List.length_append, List.length_singleton, HK.out] at hv8
        subst hv8
        have hne8 : ∀ g, (Value.slice A k c).ownBlock = some g → gs + 1 ≤ g := fun g e => by
          have h := HOW5.out
          rw [HK.out] at h
          exact (h.row.lt g e).1
        have hbx8 : w8.heap[gs]? = some (.cells #[.slice A ts.length c, .slice D m dc] 28 (0, 0)) := (hg8.block gs (by omega) (fun e => by have := hne8 gs e.symm; omega)).trans HBX5.out
        have ef8 : w8.frozen? ⟨gs, 0, none⟩ = false := (box0 hbx8).2.2.1
        have ec8 : w8.cell? ⟨gs, 0, none⟩ = some (.slice A ts.length c) := (box0 hbx8).1
        have hset8 := heap_setCell_same w8 gs 0 _ 28 (.slice A8 (k + 1) c8) hbx8
        have HST8 := Lib.hid (show RRdRel w3 rb gs (.slice D m dc) n l.length Q (k + 1) (w8.setCell ⟨gs, 0, none⟩ (.slice A8 (k + 1) c8)) from ⟨rz, ts ++ [⟨(n1 : Int), x, z⟩], .slice A8 (k + 1) c8, f - 1,
          (HR3'.out.block (hg8.block rb HR3'.out.lt (fun e => by have := hne8 rb e.symm; omega))).block (heap_setCell_other w8 ⟨gs, 0, none⟩ rb _ (by show ¬ rb = gs; omega)),
          hset8,
          hown8.block fun g e => heap_setCell_other w8 ⟨gs, 0, none⟩ g _ (by have := (hown8.row.lt g e).1; show ¬ g = gs; omega),
          (((HOFF.out.trans (HV5.out.mono fun i _ e => by rcases e with e | e; exact .inl e; exact .inr (by omega))).grown hg8 fun g e => .inl (.inr (by have := hne8 g e; omega)))).setCell (p := ⟨gs, 0, none⟩) (.inl (.inr (Nat.le_refl _))) _,
          by have := HGF.out; rw [HTR.out] at this; exact this,
          by have := HGO.out; rw [HTR.out] at this; rw [← this]; exact HRL.out,
          by have h1 := HLESS.out; rw [HTR.out] at h1; rw [List.length_append, List.length_singleton, HK.out]; have h2 := HU.out; dsimp only at h1; omega,
          by rw [List.length_append, List.length_singleton, HK.out], by omega⟩)
        have HLN8 := Lib.hid (show rdLen rb (w8.setCell ⟨gs, 0, none⟩ (.slice A8 (k + 1) c8)) < u by
          rw [rrdLen_in ((HR3'.out.block (hg8.block rb HR3'.out.lt (fun e => by have := hne8 rb e.symm; omega))).block (heap_setCell_other w8 ⟨gs, 0, none⟩ rb _ (by show ¬ rb = gs; omega)))]
          have h1 := HLESS.out; rw [HTR.out, HU.out] at h1; exact h1)
        clear hown8 hg8 hne8 hbx8 hset8
        go_wp2
        go_roundw
        case rel => exact ⟨k + 1, by go_num, HST8⟩
        case measure => have h1 := HRLN.out; have h2 := HU.out; have h3 := HLN8.out; omega
      · have hu1 : ¬ (0 : Int) < (u : Int) := by omega
        have hQ : Q = (ts, r) := by
          rw [← HRL.out]
          exact readL_end (by rw [HK.out]; rintro ⟨h1, h2⟩; exact h2 (List.eq_nil_of_length_eq_zero (by rw [HU.out]; omega)))
        have HRAW2 := Lib.hid (show readRaw l = (⟨ts, docs⟩, r) by rw [HRAW.out, hQ])
        have HRP := Lib.hid (show readP l = if r.done = true ∧ rightP ⟨ts, docs⟩ = true ∧ bytesP ⟨ts, docs⟩ = l then some ⟨ts, docs⟩ else none by unfold readP; rw [HRAW2.out])
        have HFEW := Lib.hid (show SegFew ⟨ts, docs⟩ by have := HF.out; rw [HRAW2.out] at this; exact this)
        have hkeep : ∀ i, i < gs → ¬ i = rb → wr.heap[i]? = w2.heap[i]? := fun i h1 h2 =>
          (HOFF.out.block i (by omega) (by rintro (e | e); exact h2 e; omega)).trans ((HO3.out.block i (by rw [HZG.out]; omega) h2).trans (heap_alloc_old w2 _ (by rw [HGS.out]; exact h1)))
        have hbx0 : Below w.heap.size w wr := by
          refine HB1.out.trans ((HO2.out.below (B := w.heap.size) (by omega) (fun i e => by have e' : i = rb := e; omega)).trans ((((Below.refl w.heap.size w2).alloc (by omega) _).trans (HO3.out.below (B := w.heap.size) (by rw [HZG.out]; omega) (fun i e => by have e' : i = rb := e; omega))).trans (HOFF.out.below (B := w.heap.size) (by omega) (fun i e => by rcases e with e | e <;> omega))))
        have hgw0 : wr.heap[w.heap.size]? = some (.cells #[.slice none 0 0, .slice none 0 0] 28 (0, 0)) := (hkeep _ hwg (by omega)).trans ((HO2.out.block _ (by omega) (by show ¬ w.heap.size = rb; omega)).trans HG1.out)
        have hdd : OwnInts wr w1.heap.size (.slice D m dc) docs := HDO.out.block fun i e => hkeep i (by have := (HDO.out.1.lt i e).2; rw [HGS.out] at this; exact this) (by have := (HDO.out.1.lt i e).1; omega)
        have hown0 := HOWN.out
        have hsin : SegIn wr wr.heap.size A k c D m dc ⟨ts, docs⟩ := seg_of hdd (show OwnTrms wr (gs + 1) (.slice A k c) ts by rw [HK.out] at hown0; exact hown0) HK.out HM.out
        have HDD0 := Lib.hid hdd
        have HOW0 := Lib.hid (show OwnTrms wr (gs + 1) (.slice A k c) ts by rw [HK.out] at hown0; exact hown0)
        have HSIN := Lib.hid hsin
        have HBX0 := Lib.hid hbx0
        have HGW0 := Lib.hid hgw0
        have HNO := Lib.hid (show readP l = none by
          rw [HRP.out, if_neg]
          rintro ⟨_, h2, h3⟩
          have := read_n HNN.out h2 HFEW.out h3
          rw [HK.out] at this
          omega)
        have HGW := Lib.hid hgw0
        have HBX := Lib.hid hbx0
        have hkne : ((k : Int) != (n : Int)) = true := by simp; omega
        clear hkeep hbx0 hgw0 hdd hsin hQ hown0
        go_wp2_with fail
        refine (rrd_left rb r wr HRD.out).mono ?_
        rintro e w6 ⟨rfl, rfl⟩
        rw [HU.out]
        obtain ⟨z0, z1, z2, z3, z4, z5⟩ := res_two (x := .slice none 0 0) (y := .slice none 0 0) HGW.out
        have Z4 := Lib.hid z4
        have Z5 := Lib.hid z5
        clear z4 z5
        go_wp2
        have z4 := Z4.out
        have z5 := Z5.out
        refine bodyPost_ret (v := .tuple #[.agg #[.slice none 0 0, .slice none 0 0], .bool false]) (by simp [results, Tryz.results18, go_sem, z4, z5]) rfl ?_
        exact ⟨(HBX.out.setCell (p := ⟨w.heap.size, 0, none⟩) (Nat.le_refl _) _).setCell (p := ⟨w.heap.size, 1, none⟩) (Nat.le_refl _) _, none, 0, 0, none, 0, 0, by rw [HNO.out]; rfl, by rw [HNO.out]; exact SegIn.nil_ _ _⟩
    · obtain rfl : k = n := by omega
      have hkn2 : ¬ (k : Int) < (k : Int) := by omega
      have hkne : ((k : Int) != (k : Int)) = false := by simp
      have hQ : Q = (ts, r) := by
        rw [← HRL.out]
        exact readL_end (by rw [HK.out]; rintro ⟨h1, h2⟩; omega)
      have HRAW2 := Lib.hid (show readRaw l = (⟨ts, docs⟩, r) by rw [HRAW.out, hQ])
      have HRP := Lib.hid (show readP l = if r.done = true ∧ rightP ⟨ts, docs⟩ = true ∧ bytesP ⟨ts, docs⟩ = l then some ⟨ts, docs⟩ else none by unfold readP; rw [HRAW2.out])
      have HFEW := Lib.hid (show SegFew ⟨ts, docs⟩ by have := HF.out; rw [HRAW2.out] at this; exact this)
      have hkeep : ∀ i, i < gs → ¬ i = rb → wr.heap[i]? = w2.heap[i]? := fun i h1 h2 =>
        (HOFF.out.block i (by omega) (by rintro (e | e); exact h2 e; omega)).trans ((HO3.out.block i (by rw [HZG.out]; omega) h2).trans (heap_alloc_old w2 _ (by rw [HGS.out]; exact h1)))
      have hbx0 : Below w.heap.size w wr := by
        refine HB1.out.trans ((HO2.out.below (B := w.heap.size) (by omega) (fun i e => by have e' : i = rb := e; omega)).trans ((((Below.refl w.heap.size w2).alloc (by omega) _).trans (HO3.out.below (B := w.heap.size) (by rw [HZG.out]; omega) (fun i e => by have e' : i = rb := e; omega))).trans (HOFF.out.below (B := w.heap.size) (by omega) (fun i e => by rcases e with e | e <;> omega))))
      have hgw0 : wr.heap[w.heap.size]? = some (.cells #[.slice none 0 0, .slice none 0 0] 28 (0, 0)) := (hkeep _ hwg (by omega)).trans ((HO2.out.block _ (by omega) (by show ¬ w.heap.size = rb; omega)).trans HG1.out)
      have hdd : OwnInts wr w1.heap.size (.slice D m dc) docs := HDO.out.block fun i e => hkeep i (by have := (HDO.out.1.lt i e).2; rw [HGS.out] at this; exact this) (by have := (HDO.out.1.lt i e).1; omega)
      have hown0 := HOWN.out
      have hsin : SegIn wr wr.heap.size A k c D m dc ⟨ts, docs⟩ := seg_of hdd (show OwnTrms wr (gs + 1) (.slice A k c) ts by rw [HK.out] at hown0; exact hown0) HK.out HM.out
      have HDD0 := Lib.hid hdd
      have HOW0 := Lib.hid (show OwnTrms wr (gs + 1) (.slice A k c) ts by rw [HK.out] at hown0; exact hown0)
      have HSIN := Lib.hid hsin
      have HBX0 := Lib.hid hbx0
      have HGW0 := Lib.hid hgw0
      have HRT := Lib.hid (rseg_right A D k c m dc ⟨ts, docs⟩ wr hsin HFEW.out)
      have hwz := hbx0.size
      clear hkeep hbx0 hgw0 hdd hsin hQ hown0
      go_wp2_with fail
      refine (rrd_done rb r wr HRD.out).mono ?_
      rintro e w6 ⟨rfl, rfl⟩
      obtain ⟨dn, hdn⟩ : ∃ q, r.done = q := ⟨_, rfl⟩
      rw [hdn] at HRP ⊢
      clear hdn
      cases dn
      · have HNO := Lib.hid (show readP l = none by rw [HRP.out]; simp)
        have HGW := HGW0
        have HBX := HBX0
        obtain ⟨z0, z1, z2, z3, z4, z5⟩ := res_two (x := .slice none 0 0) (y := .slice none 0 0) HGW.out
        have Z4 := Lib.hid z4
        have Z5 := Lib.hid z5
        clear z4 z5
        go_wp2
        have z4 := Z4.out
        have z5 := Z5.out
        refine bodyPost_ret (v := .tuple #[.agg #[.slice none 0 0, .slice none 0 0], .bool false]) (by simp [results, Tryz.results18, go_sem, z4, z5]) rfl ?_
        exact ⟨(HBX.out.setCell (p := ⟨w.heap.size, 0, none⟩) (Nat.le_refl _) _).setCell (p := ⟨w.heap.size, 1, none⟩) (Nat.le_refl _) _, none, 0, 0, none, 0, 0, by rw [HNO.out]; rfl, by rw [HNO.out]; exact SegIn.nil_ _ _⟩
      go_wp2_with fail
      refine HRT.out.mono ?_
      rintro e w7 ⟨rfl, hb7⟩
      have HBX7 := Lib.hid (HBX0.out.trans (hb7.mono (by omega)))
      have HGW7 := Lib.hid ((hb7.block w.heap.size (by omega)).trans HGW0.out)
      have HBX8 := Lib.hid ((hb7.block gs hgw).trans HBOX.out)
      have HSIN7 := Lib.hid ((HSIN.out.below hb7).more hb7.size)
      have HDD7 := Lib.hid (HDD0.out.block fun i e => hb7.block i (HDD0.out.1.lt i e).2)
      have HOW7 := Lib.hid (HOW0.out.below hb7)
      have h7z := hb7.size
      obtain ⟨rt, hrt⟩ : ∃ q, rightP ⟨ts, docs⟩ = q := ⟨_, rfl⟩
      rw [hrt] at HRP ⊢
      clear hrt hb7
      cases rt
      · have HNO := Lib.hid (show readP l = none by rw [HRP.out]; simp)
        have HGW := HGW7
        have HBX := HBX7
        obtain ⟨z0, z1, z2, z3, z4, z5⟩ := res_two (x := .slice none 0 0) (y := .slice none 0 0) HGW.out
        have Z4 := Lib.hid z4
        have Z5 := Lib.hid z5
        clear z4 z5
        go_wp2
        have z4 := Z4.out
        have z5 := Z5.out
        refine bodyPost_ret (v := .tuple #[.agg #[.slice none 0 0, .slice none 0 0], .bool false]) (by simp [results, Tryz.results18, go_sem, z4, z5]) rfl ?_
        exact ⟨(HBX.out.setCell (p := ⟨w.heap.size, 0, none⟩) (Nat.le_refl _) _).setCell (p := ⟨w.heap.size, 1, none⟩) (Nat.le_refl _) _, none, 0, 0, none, 0, 0, by rw [HNO.out]; rfl, by rw [HNO.out]; exact SegIn.nil_ _ _⟩
      obtain ⟨y0, y1, -, -⟩ := box0 HBX8.out
      rw [HK.out] at y0
      go_wp2_with fail
      refine (rseg_bytes A D k c m dc ⟨ts, docs⟩ w7 HSIN7.out HFEW.out).mono ?_
      rintro e w8 ⟨rfl, hb8⟩
      have HBX9 := Lib.hid (HBX7.out.trans (hb8.mono (by omega)))
      have HGW9 := Lib.hid ((hb8.block w.heap.size (by omega)).trans HGW7.out)
      have hbx9 := (hb8.block gs (by omega)).trans HBX8.out
      have HDD9 := Lib.hid (HDD7.out.block fun i e => hb8.block i (HDD7.out.1.lt i e).2)
      have HOW9 := Lib.hid (HOW7.out.below hb8)
      have h8z := hb8.size
      clear hb8 y0 y1
      by_cases hbl : bytesP ⟨ts, docs⟩ = l
      · have HYES := Lib.hid (show readP l = some ⟨ts, docs⟩ by rw [HRP.out]; simp [hbl])
        rw [hbl]
        have hne3 : ((ba l).toList != (ba l).toList) = false := by simp
        obtain ⟨y0, y1, -, -⟩ := box0 hbx9
        rw [HK.out] at y0
        obtain ⟨z0, z1, z2, z3, z4, z5⟩ := res_two (x := .slice A k c) (y := .slice D m dc) HGW9.out
        have Z4 := Lib.hid z4
        have Z5 := Lib.hid z5
        clear z4 z5 hbl hbx9
        go_wp2
        have z4 := Z4.out
        have z5 := Z5.out
        refine bodyPost_ret (v := .tuple #[.agg #[.slice A k c, .slice D m dc], .bool true]) (by simp [results, Tryz.results18, go_sem, z4, z5]) rfl ?_
        refine ⟨(HBX9.out.setCell (p := ⟨w.heap.size, 0, none⟩) (Nat.le_refl _) _).setCell (p := ⟨w.heap.size, 1, none⟩) (Nat.le_refl _) _, A, k, c, D, m, dc, by rw [HYES.out]; rfl, ?_⟩
        rw [HYES.out]
        refine seg_of (B1 := w1.heap.size) (B2 := gs + 1) ?_ ?_ HK.out HM.out
        · refine HDD9.out.block fun i e => ?_
          have hi := (HDD9.out.1.lt i e).1
          rw [heap_setCell_other _ _ _ _ (by show ¬ i = w.heap.size; omega), heap_setCell_other _ _ _ _ (by show ¬ i = w.heap.size; omega)]
        · refine HOW9.out.block fun i e => ?_
          have hi := (HOW9.out.row.lt i e).1
          rw [heap_setCell_other _ _ _ _ (by show ¬ i = w.heap.size; omega), heap_setCell_other _ _ _ _ (by show ¬ i = w.heap.size; omega)]
      · have hts : ¬ (ba (bytesP ⟨ts, docs⟩)).toList = (ba l).toList := by rw [ba_toList, ba_toList]; exact hbl
        have hts2 : ((ba (bytesP ⟨ts, docs⟩)).toList == (ba l).toList) = false := by simpa using hts
        have HNO := Lib.hid (show readP l = none by rw [HRP.out, if_neg (by rintro ⟨_, _, h⟩; exact hbl h)])
        obtain ⟨yb, hyb⟩ : ∃ yb, ba (bytesP ⟨ts, docs⟩) = yb := ⟨_, rfl⟩
        obtain ⟨xb, hxb⟩ : ∃ xb, ba l = xb := ⟨_, rfl⟩
        rw [hyb] at hts2 ⊢
        rw [hxb] at hts2 ⊢
        have hne2 : (yb.toList != xb.toList) = true := by simp [bne, hts2]
        have HGW := HGW9
        have HBX := HBX9
        clear hbl hyb hxb hts hbx9
        obtain ⟨z0, z1, z2, z3, z4, z5⟩ := res_two (x := .slice none 0 0) (y := .slice none 0 0) HGW.out
        have Z4 := Lib.hid z4
        have Z5 := Lib.hid z5
        clear z4 z5
        go_wp2
        have z4 := Z4.out
        have z5 := Z5.out
        refine bodyPost_ret (v := .tuple #[.agg #[.slice none 0 0, .slice none 0 0], .bool false]) (by simp [results, Tryz.results18, go_sem, z4, z5]) rfl ?_
        exact ⟨(HBX.out.setCell (p := ⟨w.heap.size, 0, none⟩) (Nat.le_refl _) _).setCell (p := ⟨w.heap.size, 1, none⟩) (Nat.le_refl _) _, none, 0, 0, none, 0, 0, by rw [HNO.out]; rfl, by rw [HNO.out]; exact SegIn.nil_ _ _⟩
end Go.Proofs.YtfinpehbpcckaaaGreatDoor
