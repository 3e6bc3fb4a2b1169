/- Layer 34, plain: how a segment is read. Layer 34: the contract of Read (printed by gen_read.py). Layer 34: entries in memory; what the first loop of Build gathers. -/
import Derived.Test.YtfinpehbpcckaaaGreatDoorM08
import Derived.Test.YtfinpehbpcckaaaGreatDoorM05
import Derived.Test.YtfinpehbpcckaaaGreatDoorM15
import Derived.Test.YtfinpehbpcckaaaGreatDoorM01
section
namespace Go.Proofs.YtfinpehbpcckaaaGreatDoor
set_option linter.unusedVariables false

theorem Rd.text_le (r : Rd) : r.text.2.s.length ≤ r.s.length ∧ r.text.1.length ≤ r.s.length := by
  have h := r.num_bound.2
  unfold Rd.text Rd.take
  split
  · exact ⟨Nat.zero_le _, Nat.zero_le _⟩
  · simp only [List.length_drop, List.length_take]; omega
theorem tRead_less (r : Rd) (h : r.s ≠ []) : (tRead r).2.s.length < r.s.length := by
  have h1 := r.num_less h
  have h2 := r.num.2.text_le
  have h3 := r.num.2.text.2.text_le
  show r.num.2.text.2.text.2.s.length < _
  omega
theorem Rd.loop_le : ∀ (k : Nat) (r : Rd) (out : List Int), (Rd.loop k r out).2.s.length ≤ r.s.length
  | 0, r, out => Nat.le_refl _
  | k + 1, r, out => by
    have h := r.num_bound.2
    unfold Rd.loop
    split
    · exact h
    · exact Nat.le_trans (Rd.loop_le k _ _) h
theorem Rd.nums_le (r : Rd) : r.nums.2.s.length ≤ r.s.length := by
  have h := r.num_bound.2
  unfold Rd.nums
  split
  · exact Nat.zero_le _
  · split
    · exact h
    · exact Nat.le_trans (Rd.loop_le _ _ _) h
theorem readL_end {f n : Nat} {r : Rd} {ts : List Trm} (h : ¬ (ts.length < n ∧ r.s ≠ [])) : readL f n r ts = (ts, r) := by
  cases f with
  | zero => rfl
  | succ f => unfold readL; rw [if_neg h]
theorem readL_go {f n : Nat} {r : Rd} {ts : List Trm} (h : ts.length < n ∧ r.s ≠ []) (hf : r.s.length ≤ f) : readL f n r ts = readL (f - 1) n (tRead r).2 (ts ++ [(tRead r).1]) ∧ (tRead r).2.s.length ≤ f - 1 := by
  have h1 := tRead_less r h.2
  cases f with
  | zero => omega
  | succ f =>
    refine ⟨?_, by omega⟩
    conv => lhs; unfold readL
    rw [if_pos h]; rfl
end Go.Proofs.YtfinpehbpcckaaaGreatDoor
end
section
namespace Go.Proofs.YtfinpehbpcckaaaGreatDoor
open Go.RowKit
set_option linter.unusedVariables false

/-- What Read hands back. -/
def ReadPost (w : World) (b : List UInt8) (e : Ending) (w' : World) : Prop :=
  Below w.heap.size w w' ∧ ∃ A n c D m d, e = .returned (.tuple #[.agg #[.slice A n c, .slice D m d], .bool (readP b).isSome]) ∧ SegIn w' w'.heap.size A n c D m d ((readP b).getD Seg.none_)
/-- How much a reader at block rb has left. -/
def rdLen (rb : Nat) (w : World) : Nat := match w.heap[rb]? with
  | some (Obj.cells cs _ _) => (match cs[0]? with | some (Value.string s) => s.size | _ => 0)
  | _ => 0
theorem rdLen_in {w : World} {rb : Nat} {r : Rd} (h : RdIn w rb r) : rdLen rb w = r.s.length := by
  unfold rdLen; rw [h.1]; simp [ba_size]
def RSt (w3 : World) (rb gs : Nat) (vd : Value) (n L : Nat) (Q : List Trm × Rd) (r : Rd) (ts : List Trm) (v : Value) (f : Nat) (wr : World) : Prop :=
  RdIn wr rb r ∧ wr.heap[gs]? = some (.cells #[v, vd] 28 (0, 0)) ∧ OwnTrms wr (gs + 1) v ts ∧ Off (fun k => k = rb ∨ gs ≤ k) w3 wr ∧ r.s.length ≤ f ∧ readL f n r ts = Q ∧ ts.length + r.s.length ≤ L
def RdRel (w3 : World) (rb gs : Nat) (vd : Value) (n L : Nat) (Q : List Trm × Rd) (wr : World) : Prop := ∃ r ts v f, RSt w3 rb gs vd n L Q r ts v f wr
theorem box0 {w : World} {g : Nat} {x y : Value} {t : TypeId} (h : w.heap[g]? = some (.cells #[x, y] t (0, 0))) : w.cell? ⟨g, 0, none⟩ = some x ∧ w.cell? ⟨g, 1, none⟩ = some y ∧ w.frozen? ⟨g, 0, none⟩ = false ∧ w.frozen? ⟨g, 1, none⟩ = false := by
  refine ⟨by simp [World.cell?, h], by simp [World.cell?, h], by simp [World.frozen?, h], by simp [World.frozen?, h]⟩
theorem row_ne {w : World} {B b : Nat} {v : Value} {ts : List Trm} (h : OwnTrms w B v ts) (hb : b < B) : ∀ g, v.ownBlock = some g → ¬ g = b := fun g e eb => by have := (h.row.lt g e).1; omega
/-- Two cells of a box written. -/
theorem res_two {w : World} {g : Nat} {x y x0 y0 : Value} (h : w.heap[g]? = some (.cells #[x0, y0] 28 (0, 0))) :
    w.cell? ⟨g, 0, none⟩ = some x0 ∧ w.frozen? ⟨g, 0, none⟩ = false ∧ (w.setCell ⟨g, 0, none⟩ x).cell? ⟨g, 1, none⟩ = some y0 ∧ (w.setCell ⟨g, 0, none⟩ x).frozen? ⟨g, 1, none⟩ = false ∧
    ((w.setCell ⟨g, 0, none⟩ x).setCell ⟨g, 1, none⟩ y).cell? ⟨g, 0, none⟩ = some x ∧ ((w.setCell ⟨g, 0, none⟩ x).setCell ⟨g, 1, none⟩ y).cell? ⟨g, 1, none⟩ = some y := by
  have h1 := heap_setCell_same w g 0 _ 28 x h
  have h2 := heap_setCell_same (w.setCell ⟨g, 0, none⟩ x) g 1 _ 28 y h1
  refine ⟨by simp [World.cell?, h], by simp [World.frozen?, h], by simp [World.cell?, h1], by simp [World.frozen?, h1], by simp [World.cell?, h2], by simp [World.cell?, h2]⟩
theorem seg_of {W : World} {B1 B2 k c m dc : Nat} {A D : Option Addr} {ts : List Trm} {docs : List Int} (hdd : OwnInts W B1 (.slice D m dc) docs) (hown : OwnTrms W B2 (.slice A k c) ts) (hk : ts.length = k) (hm : docs.length = m) : SegIn W W.heap.size A k c D m dc ⟨ts, docs⟩ := by
  obtain ⟨D', dc', e1, h1, h2, h3⟩ := hdd.ints
  injection e1 with e1 e2 e3
  subst e1; subst e3
  obtain ⟨A', c', e1, h4, h5, h6⟩ := hown.trms
  rw [hk] at e1 h4 h6
  injection e1 with e1 e2 e3
  subst e1; subst e3
  rw [hm] at h1 h3
  exact ⟨h6, h4, h5, h3, h1, h2⟩
theorem SegIn.nil_ (w : World) (B : Nat) : SegIn w B none 0 0 none 0 0 Seg.none_ := ⟨Trms.nil_, Nat.le_refl _, by simp, Ints.nil_, Nat.le_refl _, by simp⟩
set_option maxRecDepth 100000 in
set_option maxHeartbeats 16000000 in
theorem seg_read (l : List UInt8) (w : World) (hlen : l.length ≤ 1000000000) (hf : SegFew (readRaw l).1) (ht : Tables w) :
    Calls Tryz.prog 17 #[.string (ba l)] w (ReadPost w l) := by
  have HF := Lib.hid hf
  have HT := Lib.hid ht
  clear hf ht
  go_enter Tryz.func17, Tryz.ntmps17
  have hb0 : Below w.heap.size w (w.alloc (.cells #[.slice none 0 0, .slice none 0 0] 28)) := (Below.refl _ _).alloc (Nat.le_refl _) _
  have hg0 : (w.alloc (.cells #[.slice none 0 0, .slice none 0 0] 28)).heap[w.heap.size]? = some (.cells #[.slice none 0 0, .slice none 0 0] 28 (0, 0)) := (MapKept.heap_alloc w _).1
  have hz0 : (w.alloc (.cells #[.slice none 0 0, .slice none 0 0] 28)).heap.size = w.heap.size + 1 := by simp
  go_wp2_with fail
  refine (rd_open l _ (by unfold maxLen; omega)).mono ?_
  rintro e w1 ⟨rb, hrb, rfl, hrd1, hb1⟩
  have hrw1 := hrd1.lt
  go_wp2_with fail
  refine (rd_nums rb ⟨l, false⟩ w1 hrd1 (by show l.length ≤ _; exact hlen)).mono ?_
  rintro e w2 ⟨vd, rfl, hdo, hrd2, ho2⟩
  obtain ⟨D, dc, rfl, hd1, hd2, hdi⟩ := hdo.ints
  have hdlen := (Rd.nums ⟨l, false⟩).1.length
  obtain ⟨docs, hdocs⟩ : ∃ q, (Rd.nums ⟨l, false⟩).1 = q := ⟨_, rfl⟩
  obtain ⟨r1, hr1⟩ : ∃ q, (Rd.nums ⟨l, false⟩).2 = q := ⟨_, rfl⟩
  have hr1l : r1.s.length ≤ l.length := by rw [← hr1]; exact Rd.nums_le ⟨l, false⟩
  rw [hdocs] at hdo hd1 hdi ⊢
  rw [hr1] at hrd2
  have HDOCS := Lib.hid hdocs
  have HR1 := Lib.hid hr1
  obtain ⟨m, hm⟩ : ∃ m, docs.length = m := ⟨_, rfl⟩
  have HM := Lib.hid hm
  rw [hm] at hd1 hdi hdo ⊢
  obtain ⟨gs, hgs⟩ : ∃ gs, w2.heap.size = gs := ⟨_, rfl⟩
  have hbx : (w2.alloc (.cells #[.slice none 0 0, .slice D m dc] 28)).heap[gs]? = some (.cells #[.slice none 0 0, .slice D m dc] 28 (0, 0)) := by rw [← hgs]; exact (MapKept.heap_alloc w2 _).1
  have hzg : (w2.alloc (.cells #[.slice none 0 0, .slice D m dc] 28)).heap.size = gs + 1 := by rw [← hgs]; simp
  have HZG := Lib.hid hzg
  have hs12 := ho2.size
  have hrdg : RdIn (w2.alloc (.cells #[.slice none 0 0, .slice D m dc] 28)) rb r1 := hrd2.block (heap_alloc_old w2 _ hrd2.lt)
  have HB1 := Lib.hid (hb0.trans (hb1.mono (by omega)))
  have HG1 := Lib.hid ((hb1.block w.heap.size (by omega)).trans hg0)
  have hwrb : w.heap.size < rb := by omega
  have HO2 := Lib.hid ho2
  have HDO := Lib.hid hdo
  have HDI := Lib.hid hdi
  have hs1 : w.heap.size + 1 ≤ w1.heap.size := by have := hb1.size; omega
  go_wp2_with fail
  refine (rd_num rb r1 _ hrdg).mono ?_
  rintro e w3 ⟨rfl, hrd3, ho3⟩
  have hbx3 := (ho3.block gs (by omega) (by show ¬ gs = rb; have := hrd2.lt; omega)).trans hbx
  have hs3 := ho3.size
  obtain ⟨n, hn⟩ : ∃ n, r1.num.1 = n := ⟨_, rfl⟩
  obtain ⟨r2, hr2⟩ : ∃ q, r1.num.2 = q := ⟨_, rfl⟩
  have hnb := r1.num_bound
  rw [hn, hr2] at hnb
  rw [hr2] at hrd3
  rw [hn]
  have hn63 : n < 9223372036854775808 := hnb.1
  have hr2l : r2.s.length ≤ l.length := by omega
  have HRAW := Lib.hid (show readRaw l = (⟨(readL l.length n r2 []).1, docs⟩, (readL l.length n r2 []).2) by
    show ((⟨(readL l.length (Rd.nums ⟨l, false⟩).2.num.1 (Rd.nums ⟨l, false⟩).2.num.2 []).1, (Rd.nums ⟨l, false⟩).1⟩ : Seg), (readL l.length (Rd.nums ⟨l, false⟩).2.num.1 (Rd.nums ⟨l, false⟩).2.num.2 []).2) = _
    rw [HDOCS.out, HR1.out, hn, hr2])
  have HO3 := Lib.hid ho3
  have HINI := Lib.hid (show RdRel w3 rb gs (.slice D m dc) n l.length (readL l.length n r2 []) w3 from ⟨r2, [], .slice none 0 0, l.length, hrd3, hbx3, OwnTrms.nil_ _ _, Off.refl _ _, hr2l, rfl, by simpa using hr2l⟩)
  obtain ⟨Q, hQ⟩ : ∃ Q, readL l.length n r2 [] = Q := ⟨_, rfl⟩
  rw [hQ] at HRAW HINI
  have hrg : rb < gs := by have := hrd2.lt; omega
  have HGS := Lib.hid hgs
  have hwg : w.heap.size < gs := by omega
  have hs3g : gs + 1 ≤ w3.heap.size := by omega
  clear hb0 hg0 hz0 hrd1 hb1 hdo hrd2 ho2 hdi hdocs hr1 hm hbx hzg hrdg ho3 hbx3 hn hr2 hnb hrd3 hQ hr1l hdlen hgs
  go_wp2
  go_loopw [] (fun wr => Hid (RdRel w3 rb gs (.slice D m dc) n l.length Q wr)) (fun wr => rdLen rb wr)
  case atStart => exact HINI.out
  case round =>
    obtain ⟨r, ts, v, f, hrd, hbox, hown, hoff, hfl, hrl, hll⟩ := hrel.out
    have HRLN := Lib.hid (rdLen_in hrd)
    have hsz := hoff.size
    obtain ⟨A, c, rfl, hc1, hc2⟩ := hown.shape
    obtain ⟨k, hk⟩ : ∃ k, ts.length = k := ⟨_, rfl⟩
    obtain ⟨u, hu⟩ : ∃ u, r.s.length = u := ⟨_, rfl⟩
    obtain ⟨b0, b1, bf0, bf1⟩ := box0 hbox
    rw [hk] at b0 hc1 hll
    rw [hu] at hll hfl
    have HK := Lib.hid hk
    have HU := Lib.hid hu
    have HRD := Lib.hid hrd
    have HBOX := Lib.hid hbox
    have HOWN := Lib.hid hown
    have HOFF := Lib.hid hoff
    have HRL := Lib.hid hrl
    have hgw : gs < wr.heap.size := by omega
    clear hrd hbox hown hoff hrl hk hu bf0 bf1
    by_cases hkn : k < n
    · have hkn2 : (k : Int) < (n : Int) := by omega
      by_cases hu0 : 0 < u
      · have hu1 : (0 : Int) < (u : Int) := by omega
        have HNE := Lib.hid (show r.s ≠ [] by intro e; have := HU.out; rw [e] at this; simp at this; omega)
        obtain ⟨hgo, hgf⟩ := readL_go (n := n) (r := r) (ts := ts) (f := f) ⟨by rw [HK.out]; exact hkn, HNE.out⟩ (by rw [HU.out]; exact hfl)
        have hless := tRead_less r HNE.out
        have HGO := Lib.hid hgo
        have HGF := Lib.hid hgf
        have HLESS := Lib.hid hless
        have hnb := r.num_bound
        have HRNUM := Lib.hid (fun W (h : RdIn W rb r) => rd_num rb r W h)
        have htr : tRead r = (⟨r.num.1, r.num.2.text.1, r.num.2.text.2.text.1⟩, r.num.2.text.2.text.2) := rfl
        obtain ⟨n1, hn1⟩ : ∃ q, r.num.1 = q := ⟨_, rfl⟩
        obtain ⟨ra, hra⟩ : ∃ q, r.num.2 = q := ⟨_, rfl⟩
        unfold NumPost at HRNUM
        rw [hn1, hra] at htr
        simp only [hn1, hra] at HRNUM
        have hn1b : n1 < 9223372036854775808 := by rw [← hn1]; exact hnb.1
        have HT1 := Lib.hid (fun W (h : RdIn W rb ra) => rd_text rb ra W h)
        obtain ⟨x, hx⟩ : ∃ q, ra.text.1 = q := ⟨_, rfl⟩
        obtain ⟨rx, hrx⟩ : ∃ q, ra.text.2 = q := ⟨_, rfl⟩
        unfold TextPost at HT1
        rw [hx, hrx] at htr
        simp only [hx, hrx] at HT1
        have HT2 := Lib.hid (fun W (h : RdIn W rb rx) => rd_text rb rx W h)
        obtain ⟨z, hz⟩ : ∃ q, rx.text.1 = q := ⟨_, rfl⟩
        obtain ⟨rz, hrz⟩ : ∃ q, rx.text.2 = q := ⟨_, rfl⟩
        unfold TextPost at HT2
        rw [hz, hrz] at htr
        simp only [hz, hrz] at HT2
        have HTR := Lib.hid htr
        clear hgo hgf hless htr hn1 hra hx hrx hz hrz hnb
        have hfok : FieldOk ⟨(n1 : Int), x, z⟩ := ⟨by show -9223372036854775808 ≤ (n1 : Int); omega, by show (n1 : Int) ≤ 9223372036854775807; omega⟩
        have HFO := Lib.hid hfok
        clear hfok
        go_wp2_with fail
        refine (rd_left rb r wr HRD.out).mono ?_
        rintro e w6 ⟨rfl, rfl⟩
        rw [HU.out]
        go_wp2
        go_region_law
          (first
            | (go_simp; go_at_call 56; refine (HRNUM.out wr.drew (show RdIn wr.drew rb r from HRD.out)).mono ?_; rintro e v1 ⟨rfl, hr1', ho1'⟩; (
                have HV1 := Lib.hid (show Off (· = rb) wr v1 from ⟨ho1'.os, ho1'.tape, ho1'.output, ho1'.size, ho1'.block⟩)
                have HR1' := Lib.hid hr1'
                have p1 : v1.cell? ⟨gs, 0, none⟩ = some (.slice A k c) := (World.cell?_of_block (a := ⟨gs, 0, none⟩) (HV1.out.block gs hgw (by show ¬ gs = rb; omega))).trans b0
                clear hr1' ho1'))
            | (go_simp; go_at_call 58; refine (HT1.out v1 HR1'.out).mono ?_; rintro e v2 ⟨rfl, hr2', ho2'⟩; (
                have HV2 := Lib.hid (HV1.out.trans ho2')
                have HR2' := Lib.hid hr2'
                have p2 : v2.cell? ⟨gs, 0, none⟩ = some (.slice A k c) := (World.cell?_of_block (a := ⟨gs, 0, none⟩) (HV2.out.block gs hgw (by show ¬ gs = rb; omega))).trans b0
                clear hr2' ho2'))
            | (go_simp; go_at_call 58; refine (HT2.out v2 HR2'.out).mono ?_; rintro e v3 ⟨rfl, hr3', ho3'⟩; (
                have HV3 := Lib.hid (HV2.out.trans ho3')
                have HR3' := Lib.hid hr3'
                have p3 : v3.cell? ⟨gs, 0, none⟩ = some (.slice A k c) := (World.cell?_of_block (a := ⟨gs, 0, none⟩) (HV3.out.block gs hgw (by show ¬ gs = rb; omega))).trans b0
                have hs3' : gs + 1 ≤ v3.heap.size := by have := HV3.out.size; omega
                have p4 : (v3.alloc (.cells #[.int .i64 (n1 : Int), .string (ba x), .string (ba z)] 47)).cell? ⟨gs, 0, none⟩ = some (.slice A k c) := (World.cell?_of_block (a := ⟨gs, 0, none⟩) (heap_alloc_old v3 _ (by show gs < _; omega))).trans p3
                have HOW3 := Lib.hid (HOWN.out.block (w' := v3) fun g e => HV3.out.block g (HOWN.out.row.lt g e).2 (row_ne HOWN.out (by omega) g e))
                have HBX3 := Lib.hid ((HV3.out.block gs hgw (by show ¬ gs = rb; omega)).trans HBOX.out)
                clear hr3' ho3'))
            | (refine step_pushTrm (show OwnTrms v3 (gs + 1) (.slice A k c) ts by have := HOW3.out; rw [HK.out] at this; exact this) hs3' HFO.out (by rw [HK.out]; omega) rfl (.tmp 25) (.tmp 33) 1 rfl rfl rfl ?_; intro v' w8 hown8 hg8; (
                obtain ⟨A8, c8, hv8, -, -⟩ := hown8.shape
                rw [List.length_append, List.length_singleton, HK.out] at hv8
                subst hv8
                have hne8 : ∀ g, (Value.slice A k c).ownBlock = some g → gs + 1 ≤ g := fun g e => by
                  have h := HOW3.out
                  rw [HK.out] at h
                  exact (h.row.lt g e).1
                have hbx8 : w8.heap[gs]? = some (.cells #[.slice A ts.length c, .slice D m dc] 28 (0, 0)) := (hg8.block gs (by omega) (fun e => by have := hne8 gs e.symm; omega)).trans HBX3.out
                have ef8 : w8.frozen? ⟨gs, 0, none⟩ = false := (box0 hbx8).2.2.1
                have ec8 : w8.cell? ⟨gs, 0, none⟩ = some (.slice A ts.length c) := (box0 hbx8).1
                have hset8 := heap_setCell_same w8 gs 0 _ 28 (.slice A8 (k + 1) c8) hbx8
                have HST8 := Lib.hid (show RdRel w3 rb gs (.slice D m dc) n l.length Q (w8.setCell ⟨gs, 0, none⟩ (.slice A8 (k + 1) c8)) from ⟨rz, ts ++ [⟨(n1 : Int), x, z⟩], .slice A8 (k + 1) c8, f - 1,
                  (HR3'.out.block (hg8.block rb HR3'.out.lt (fun e => by have := hne8 rb e.symm; omega))).block (heap_setCell_other w8 ⟨gs, 0, none⟩ rb _ (by show ¬ rb = gs; omega)),
                  hset8,
                  hown8.block fun g e => heap_setCell_other w8 ⟨gs, 0, none⟩ g _ (by have := (hown8.row.lt g e).1; show ¬ g = gs; omega),
                  (((HOFF.out.trans (HV3.out.mono fun i _ e => .inl e)).grown hg8 fun g e => .inl (.inr (by have := hne8 g e; omega)))).setCell (p := ⟨gs, 0, none⟩) (.inl (.inr (Nat.le_refl _))) _,
                  by have := HGF.out; rw [HTR.out] at this; exact this,
                  by have := HGO.out; rw [HTR.out] at this; rw [← this]; exact HRL.out,
                  by have h1 := HLESS.out; rw [HTR.out] at h1; rw [List.length_append, List.length_singleton, HK.out]; have h2 := HU.out; dsimp only at h1; omega⟩)
                have HLN8 := Lib.hid (show rdLen rb (w8.setCell ⟨gs, 0, none⟩ (.slice A8 (k + 1) c8)) < u by
                  rw [rdLen_in ((HR3'.out.block (hg8.block rb HR3'.out.lt (fun e => by have := hne8 rb e.symm; omega))).block (heap_setCell_other w8 ⟨gs, 0, none⟩ rb _ (by show ¬ rb = gs; omega)))]
                  have h1 := HLESS.out; rw [HTR.out, HU.out] at h1; exact h1)
                clear hown8 hg8 hne8 hbx8 hset8))
            | fail)
        all_goals
          go_wp2
          go_roundw
          case rel => exact HST8
          case measure => have h1 := HRLN.out; have h2 := HU.out; have h3 := HLN8.out; omega
      · have hu1 : ¬ (0 : Int) < (u : Int) := by omega
        have hQ : Q = (ts, r) := by
          rw [← HRL.out]
          exact readL_end (by rw [HK.out]; rintro ⟨h1, h2⟩; exact h2 (List.eq_nil_of_length_eq_zero (by rw [HU.out]; omega)))
        have HRAW2 := Lib.hid (show readRaw l = (⟨ts, docs⟩, r) by rw [HRAW.out, hQ])
        have HRP := Lib.hid (show readP l = if r.done = true ∧ rightP ⟨ts, docs⟩ = true ∧ bytesP ⟨ts, docs⟩ = l then some ⟨ts, docs⟩ else none by unfold readP; rw [HRAW2.out])
        have HFEW := Lib.hid (show SegFew ⟨ts, docs⟩ by have := HF.out; rw [HRAW2.out] at this; exact this)
        have hkeep : ∀ i, i < gs → ¬ i = rb → wr.heap[i]? = w2.heap[i]? := fun i h1 h2 =>
          (HOFF.out.block i (by omega) (by rintro (e | e); exact h2 e; omega)).trans ((HO3.out.block i (by rw [HZG.out]; omega) h2).trans (heap_alloc_old w2 _ (by rw [HGS.out]; exact h1)))
        have hbx0 : Below w.heap.size w wr := by
          refine HB1.out.trans ((HO2.out.below (B := w.heap.size) (by omega) (fun i e => by have e' : i = rb := e; omega)).trans ((((Below.refl w.heap.size w2).alloc (by omega) _).trans (HO3.out.below (B := w.heap.size) (by rw [HZG.out]; omega) (fun i e => by have e' : i = rb := e; omega))).trans (HOFF.out.below (B := w.heap.size) (by omega) (fun i e => by rcases e with e | e <;> omega))))
        have hgw0 : wr.heap[w.heap.size]? = some (.cells #[.slice none 0 0, .slice none 0 0] 28 (0, 0)) := (hkeep _ hwg (by omega)).trans ((HO2.out.block _ (by omega) (by show ¬ w.heap.size = rb; omega)).trans HG1.out)
        have hdd : OwnInts wr w1.heap.size (.slice D m dc) docs := HDO.out.block fun i e => hkeep i (by have := (HDO.out.1.lt i e).2; rw [HGS.out] at this; exact this) (by have := (HDO.out.1.lt i e).1; omega)
        have hown0 := HOWN.out
        have hsin : SegIn wr wr.heap.size A k c D m dc ⟨ts, docs⟩ := seg_of hdd (show OwnTrms wr (gs + 1) (.slice A k c) ts by rw [HK.out] at hown0; exact hown0) HK.out HM.out
        have HDD0 := Lib.hid hdd
        have HOW0 := Lib.hid (show OwnTrms wr (gs + 1) (.slice A k c) ts by rw [HK.out] at hown0; exact hown0)
        have HSIN := Lib.hid hsin
        have HBX0 := Lib.hid hbx0
        have HGW0 := Lib.hid hgw0
        have HRT := Lib.hid (seg_right A D k c m dc ⟨ts, docs⟩ wr hsin HFEW.out (HT.out.below hbx0))
        have hwz := hbx0.size
        clear hkeep hbx0 hgw0 hdd hsin hQ hown0
        go_wp2_with fail
        refine (rd_left rb r wr HRD.out).mono ?_
        rintro e w6 ⟨rfl, rfl⟩
        rw [HU.out]
        go_wp2_with fail
        refine (rd_done rb r wr HRD.out).mono ?_
        rintro e w6 ⟨rfl, rfl⟩
        obtain ⟨dn, hdn⟩ : ∃ q, r.done = q := ⟨_, rfl⟩
        rw [hdn] at HRP ⊢
        clear hdn
        cases dn
        · have HNO := Lib.hid (show readP l = none by rw [HRP.out]; simp)
          have HGW := HGW0
          have HBX := HBX0
          obtain ⟨z0, z1, z2, z3, z4, z5⟩ := res_two (x := .slice none 0 0) (y := .slice none 0 0) HGW.out
          have Z4 := Lib.hid z4
          have Z5 := Lib.hid z5
          clear z4 z5
          go_wp2
          have z4 := Z4.out
          have z5 := Z5.out
          refine bodyPost_ret (v := .tuple #[.agg #[.slice none 0 0, .slice none 0 0], .bool false]) (by simp [results, Tryz.results17, go_sem, z4, z5]) rfl ?_
          exact ⟨(HBX.out.setCell (p := ⟨w.heap.size, 0, none⟩) (Nat.le_refl _) _).setCell (p := ⟨w.heap.size, 1, none⟩) (Nat.le_refl _) _, none, 0, 0, none, 0, 0, by rw [HNO.out]; rfl, by rw [HNO.out]; exact SegIn.nil_ _ _⟩
        go_wp2_with fail
        refine HRT.out.mono ?_
        rintro e w7 ⟨rfl, hb7⟩
        have HBX7 := Lib.hid (HBX0.out.trans (hb7.mono (by omega)))
        have HGW7 := Lib.hid ((hb7.block w.heap.size (by omega)).trans HGW0.out)
        have HBX8 := Lib.hid ((hb7.block gs hgw).trans HBOX.out)
        have HSIN7 := Lib.hid ((HSIN.out.below hb7).more hb7.size)
        have HDD7 := Lib.hid (HDD0.out.block fun i e => hb7.block i (HDD0.out.1.lt i e).2)
        have HOW7 := Lib.hid (HOW0.out.below hb7)
        have h7z := hb7.size
        obtain ⟨rt, hrt⟩ : ∃ q, rightP ⟨ts, docs⟩ = q := ⟨_, rfl⟩
        rw [hrt] at HRP ⊢
        clear hrt hb7
        cases rt
        · have HNO := Lib.hid (show readP l = none by rw [HRP.out]; simp)
          have HGW := HGW7
          have HBX := HBX7
          obtain ⟨z0, z1, z2, z3, z4, z5⟩ := res_two (x := .slice none 0 0) (y := .slice none 0 0) HGW.out
          have Z4 := Lib.hid z4
          have Z5 := Lib.hid z5
          clear z4 z5
          go_wp2
          have z4 := Z4.out
          have z5 := Z5.out
          refine bodyPost_ret (v := .tuple #[.agg #[.slice none 0 0, .slice none 0 0], .bool false]) (by simp [results, Tryz.results17, go_sem, z4, z5]) rfl ?_
          exact ⟨(HBX.out.setCell (p := ⟨w.heap.size, 0, none⟩) (Nat.le_refl _) _).setCell (p := ⟨w.heap.size, 1, none⟩) (Nat.le_refl _) _, none, 0, 0, none, 0, 0, by rw [HNO.out]; rfl, by rw [HNO.out]; exact SegIn.nil_ _ _⟩
        obtain ⟨y0, y1, -, -⟩ := box0 HBX8.out
        rw [HK.out] at y0
        go_wp2_with fail
        refine (seg_bytes A D k c m dc ⟨ts, docs⟩ w7 HSIN7.out HFEW.out (HT.out.below HBX7.out)).mono ?_
        rintro e w8 ⟨rfl, hb8⟩
        have HBX9 := Lib.hid (HBX7.out.trans (hb8.mono (by omega)))
        have HGW9 := Lib.hid ((hb8.block w.heap.size (by omega)).trans HGW7.out)
        have hbx9 := (hb8.block gs (by omega)).trans HBX8.out
        have HDD9 := Lib.hid (HDD7.out.block fun i e => hb8.block i (HDD7.out.1.lt i e).2)
        have HOW9 := Lib.hid (HOW7.out.below hb8)
        have h8z := hb8.size
        clear hb8 y0 y1
        by_cases hbl : bytesP ⟨ts, docs⟩ = l
        · have HYES := Lib.hid (show readP l = some ⟨ts, docs⟩ by rw [HRP.out]; simp [hbl])
          rw [hbl]
          have hne3 : ((ba l).toList != (ba l).toList) = false := by simp
          obtain ⟨y0, y1, -, -⟩ := box0 hbx9
          rw [HK.out] at y0
          obtain ⟨z0, z1, z2, z3, z4, z5⟩ := res_two (x := .slice A k c) (y := .slice D m dc) HGW9.out
          have Z4 := Lib.hid z4
          have Z5 := Lib.hid z5
          clear z4 z5 hbl hbx9
          go_wp2
          have z4 := Z4.out
          have z5 := Z5.out
          refine bodyPost_ret (v := .tuple #[.agg #[.slice A k c, .slice D m dc], .bool true]) (by simp [results, Tryz.results17, go_sem, z4, z5]) rfl ?_
          refine ⟨(HBX9.out.setCell (p := ⟨w.heap.size, 0, none⟩) (Nat.le_refl _) _).setCell (p := ⟨w.heap.size, 1, none⟩) (Nat.le_refl _) _, A, k, c, D, m, dc, by rw [HYES.out]; rfl, ?_⟩
          rw [HYES.out]
          refine seg_of (B1 := w1.heap.size) (B2 := gs + 1) ?_ ?_ HK.out HM.out
          · refine HDD9.out.block fun i e => ?_
            have hi := (HDD9.out.1.lt i e).1
            rw [heap_setCell_other _ _ _ _ (by show ¬ i = w.heap.size; omega), heap_setCell_other _ _ _ _ (by show ¬ i = w.heap.size; omega)]
          · refine HOW9.out.block fun i e => ?_
            have hi := (HOW9.out.row.lt i e).1
            rw [heap_setCell_other _ _ _ _ (by show ¬ i = w.heap.size; omega), heap_setCell_other _ _ _ _ (by show ¬ i = w.heap.size; omega)]
        · have hts : ¬ (ba (bytesP ⟨ts, docs⟩)).toList = (ba l).toList := by rw [ba_toList, ba_toList]; exact hbl
          have hts2 : ((ba (bytesP ⟨ts, docs⟩)).toList == (ba l).toList) = false := by simpa using hts
          have HNO := Lib.hid (show readP l = none by rw [HRP.out, if_neg (by rintro ⟨_, _, h⟩; exact hbl h)])
          obtain ⟨yb, hyb⟩ : ∃ yb, ba (bytesP ⟨ts, docs⟩) = yb := ⟨_, rfl⟩
          obtain ⟨xb, hxb⟩ : ∃ xb, ba l = xb := ⟨_, rfl⟩
          rw [hyb] at hts2 ⊢
          rw [hxb] at hts2 ⊢
          have hne2 : (yb.toList != xb.toList) = true := by simp [bne, hts2]
          have HGW := HGW9
          have HBX := HBX9
          clear hbl hyb hxb hts hbx9
          obtain ⟨z0, z1, z2, z3, z4, z5⟩ := res_two (x := .slice none 0 0) (y := .slice none 0 0) HGW.out
          have Z4 := Lib.hid z4
          have Z5 := Lib.hid z5
          clear z4 z5
          go_wp2
          have z4 := Z4.out
          have z5 := Z5.out
          refine bodyPost_ret (v := .tuple #[.agg #[.slice none 0 0, .slice none 0 0], .bool false]) (by simp [results, Tryz.results17, go_sem, z4, z5]) rfl ?_
          exact ⟨(HBX.out.setCell (p := ⟨w.heap.size, 0, none⟩) (Nat.le_refl _) _).setCell (p := ⟨w.heap.size, 1, none⟩) (Nat.le_refl _) _, none, 0, 0, none, 0, 0, by rw [HNO.out]; rfl, by rw [HNO.out]; exact SegIn.nil_ _ _⟩
    · have hkn2 : ¬ (k : Int) < (n : Int) := by omega
      have hQ : Q = (ts, r) := by
        rw [← HRL.out]
        exact readL_end (by rw [HK.out]; rintro ⟨h1, h2⟩; omega)
      have HRAW2 := Lib.hid (show readRaw l = (⟨ts, docs⟩, r) by rw [HRAW.out, hQ])
      have HRP := Lib.hid (show readP l = if r.done = true ∧ rightP ⟨ts, docs⟩ = true ∧ bytesP ⟨ts, docs⟩ = l then some ⟨ts, docs⟩ else none by unfold readP; rw [HRAW2.out])
      have HFEW := Lib.hid (show SegFew ⟨ts, docs⟩ by have := HF.out; rw [HRAW2.out] at this; exact this)
      have hkeep : ∀ i, i < gs → ¬ i = rb → wr.heap[i]? = w2.heap[i]? := fun i h1 h2 =>
        (HOFF.out.block i (by omega) (by rintro (e | e); exact h2 e; omega)).trans ((HO3.out.block i (by rw [HZG.out]; omega) h2).trans (heap_alloc_old w2 _ (by rw [HGS.out]; exact h1)))
      have hbx0 : Below w.heap.size w wr := by
        refine HB1.out.trans ((HO2.out.below (B := w.heap.size) (by omega) (fun i e => by have e' : i = rb := e; omega)).trans ((((Below.refl w.heap.size w2).alloc (by omega) _).trans (HO3.out.below (B := w.heap.size) (by rw [HZG.out]; omega) (fun i e => by have e' : i = rb := e; omega))).trans (HOFF.out.below (B := w.heap.size) (by omega) (fun i e => by rcases e with e | e <;> omega))))
      have hgw0 : wr.heap[w.heap.size]? = some (.cells #[.slice none 0 0, .slice none 0 0] 28 (0, 0)) := (hkeep _ hwg (by omega)).trans ((HO2.out.block _ (by omega) (by show ¬ w.heap.size = rb; omega)).trans HG1.out)
      have hdd : OwnInts wr w1.heap.size (.slice D m dc) docs := HDO.out.block fun i e => hkeep i (by have := (HDO.out.1.lt i e).2; rw [HGS.out] at this; exact this) (by have := (HDO.out.1.lt i e).1; omega)
      have hown0 := HOWN.out
      have hsin : SegIn wr wr.heap.size A k c D m dc ⟨ts, docs⟩ := seg_of hdd (show OwnTrms wr (gs + 1) (.slice A k c) ts by rw [HK.out] at hown0; exact hown0) HK.out HM.out
      have HDD0 := Lib.hid hdd
      have HOW0 := Lib.hid (show OwnTrms wr (gs + 1) (.slice A k c) ts by rw [HK.out] at hown0; exact hown0)
      have HSIN := Lib.hid hsin
      have HBX0 := Lib.hid hbx0
      have HGW0 := Lib.hid hgw0
      have HRT := Lib.hid (seg_right A D k c m dc ⟨ts, docs⟩ wr hsin HFEW.out (HT.out.below hbx0))
      have hwz := hbx0.size
      clear hkeep hbx0 hgw0 hdd hsin hQ hown0
      go_wp2_with fail
      refine (rd_done rb r wr HRD.out).mono ?_
      rintro e w6 ⟨rfl, rfl⟩
      obtain ⟨dn, hdn⟩ : ∃ q, r.done = q := ⟨_, rfl⟩
      rw [hdn] at HRP ⊢
      clear hdn
      cases dn
      · have HNO := Lib.hid (show readP l = none by rw [HRP.out]; simp)
        have HGW := HGW0
        have HBX := HBX0
        obtain ⟨z0, z1, z2, z3, z4, z5⟩ := res_two (x := .slice none 0 0) (y := .slice none 0 0) HGW.out
        have Z4 := Lib.hid z4
        have Z5 := Lib.hid z5
        clear z4 z5
        go_wp2
        have z4 := Z4.out
        have z5 := Z5.out
        refine bodyPost_ret (v := .tuple #[.agg #[.slice none 0 0, .slice none 0 0], .bool false]) (by simp [results, Tryz.results17, go_sem, z4, z5]) rfl ?_
        exact ⟨(HBX.out.setCell (p := ⟨w.heap.size, 0, none⟩) (Nat.le_refl _) _).setCell (p := ⟨w.heap.size, 1, none⟩) (Nat.le_refl _) _, none, 0, 0, none, 0, 0, by rw [HNO.out]; rfl, by rw [HNO.out]; exact SegIn.nil_ _ _⟩
      go_wp2_with fail
      refine HRT.out.mono ?_
      rintro e w7 ⟨rfl, hb7⟩
      have HBX7 := Lib.hid (HBX0.out.trans (hb7.mono (by omega)))
      have HGW7 := Lib.hid ((hb7.block w.heap.size (by omega)).trans HGW0.out)
      have HBX8 := Lib.hid ((hb7.block gs hgw).trans HBOX.out)
      have HSIN7 := Lib.hid ((HSIN.out.below hb7).more hb7.size)
      have HDD7 := Lib.hid (HDD0.out.block fun i e => hb7.block i (HDD0.out.1.lt i e).2)
      have HOW7 := Lib.hid (HOW0.out.below hb7)
      have h7z := hb7.size
      obtain ⟨rt, hrt⟩ : ∃ q, rightP ⟨ts, docs⟩ = q := ⟨_, rfl⟩
      rw [hrt] at HRP ⊢
      clear hrt hb7
      cases rt
      · have HNO := Lib.hid (show readP l = none by rw [HRP.out]; simp)
        have HGW := HGW7
        have HBX := HBX7
        obtain ⟨z0, z1, z2, z3, z4, z5⟩ := res_two (x := .slice none 0 0) (y := .slice none 0 0) HGW.out
        have Z4 := Lib.hid z4
        have Z5 := Lib.hid z5
        clear z4 z5
        go_wp2
        have z4 := Z4.out
        have z5 := Z5.out
        refine bodyPost_ret (v := .tuple #[.agg #[.slice none 0 0, .slice none 0 0], .bool false]) (by simp [results, Tryz.results17, go_sem, z4, z5]) rfl ?_
        exact ⟨(HBX.out.setCell (p := ⟨w.heap.size, 0, none⟩) (Nat.le_refl _) _).setCell (p := ⟨w.heap.size, 1, none⟩) (Nat.le_refl _) _, none, 0, 0, none, 0, 0, by rw [HNO.out]; rfl, by rw [HNO.out]; exact SegIn.nil_ _ _⟩
      obtain ⟨y0, y1, -, -⟩ := box0 HBX8.out
      rw [HK.out] at y0
      go_wp2_with fail
      refine (seg_bytes A D k c m dc ⟨ts, docs⟩ w7 HSIN7.out HFEW.out (HT.out.below HBX7.out)).mono ?_
      rintro e w8 ⟨rfl, hb8⟩
      have HBX9 := Lib.hid (HBX7.out.trans (hb8.mono (by omega)))
      have HGW9 := Lib.hid ((hb8.block w.heap.size (by omega)).trans HGW7.out)
      have hbx9 := (hb8.block gs (by omega)).trans HBX8.out
      have HDD9 := Lib.hid (HDD7.out.block fun i e => hb8.block i (HDD7.out.1.lt i e).2)
      have HOW9 := Lib.hid (HOW7.out.below hb8)
      have h8z := hb8.size
      clear hb8 y0 y1
      by_cases hbl : bytesP ⟨ts, docs⟩ = l
      · have HYES := Lib.hid (show readP l = some ⟨ts, docs⟩ by rw [HRP.out]; simp [hbl])
        rw [hbl]
        have hne3 : ((ba l).toList != (ba l).toList) = false := by simp
        obtain ⟨y0, y1, -, -⟩ := box0 hbx9
        rw [HK.out] at y0
        obtain ⟨z0, z1, z2, z3, z4, z5⟩ := res_two (x := .slice A k c) (y := .slice D m dc) HGW9.out
        have Z4 := Lib.hid z4
        have Z5 := Lib.hid z5
        clear z4 z5 hbl hbx9
        go_wp2
        have z4 := Z4.out
        have z5 := Z5.out
        refine bodyPost_ret (v := .tuple #[.agg #[.slice A k c, .slice D m dc], .bool true]) (by simp [results, Tryz.results17, go_sem, z4, z5]) rfl ?_
        refine ⟨(HBX9.out.setCell (p := ⟨w.heap.size, 0, none⟩) (Nat.le_refl _) _).setCell (p := ⟨w.heap.size, 1, none⟩) (Nat.le_refl _) _, A, k, c, D, m, dc, by rw [HYES.out]; rfl, ?_⟩
        rw [HYES.out]
        refine seg_of (B1 := w1.heap.size) (B2 := gs + 1) ?_ ?_ HK.out HM.out
        · refine HDD9.out.block fun i e => ?_
          have hi := (HDD9.out.1.lt i e).1
          rw [heap_setCell_other _ _ _ _ (by show ¬ i = w.heap.size; omega), heap_setCell_other _ _ _ _ (by show ¬ i = w.heap.size; omega)]
        · refine HOW9.out.block fun i e => ?_
          have hi := (HOW9.out.row.lt i e).1
          rw [heap_setCell_other _ _ _ _ (by show ¬ i = w.heap.size; omega), heap_setCell_other _ _ _ _ (by show ¬ i = w.heap.size; omega)]
      · have hts : ¬ (ba (bytesP ⟨ts, docs⟩)).toList = (ba l).toList := by rw [ba_toList, ba_toList]; exact hbl
        have hts2 : ((ba (bytesP ⟨ts, docs⟩)).toList == (ba l).toList) = false := by simpa using hts
        have HNO := Lib.hid (show readP l = none by rw [HRP.out, if_neg (by rintro ⟨_, _, h⟩; exact hbl h)])
        obtain ⟨yb, hyb⟩ : ∃ yb, ba (bytesP ⟨ts, docs⟩) = yb := ⟨_, rfl⟩
        obtain ⟨xb, hxb⟩ : ∃ xb, ba l = xb := ⟨_, rfl⟩
        rw [hyb] at hts2 ⊢
        rw [hxb] at hts2 ⊢
        have hne2 : (yb.toList != xb.toList) = true := by simp [bne, hts2]
        have HGW := HGW9
        have HBX := HBX9
        clear hbl hyb hxb hts hbx9
        obtain ⟨z0, z1, z2, z3, z4, z5⟩ := res_two (x := .slice none 0 0) (y := .slice none 0 0) HGW.out
        have Z4 := Lib.hid z4
        have Z5 := Lib.hid z5
        clear z4 z5
        go_wp2
        have z4 := Z4.out
        have z5 := Z5.out
        refine bodyPost_ret (v := .tuple #[.agg #[.slice none 0 0, .slice none 0 0], .bool false]) (by simp [results, Tryz.results17, go_sem, z4, z5]) rfl ?_
        exact ⟨(HBX.out.setCell (p := ⟨w.heap.size, 0, none⟩) (Nat.le_refl _) _).setCell (p := ⟨w.heap.size, 1, none⟩) (Nat.le_refl _) _, none, 0, 0, none, 0, 0, by rw [HNO.out]; rfl, by rw [HNO.out]; exact SegIn.nil_ _ _⟩
end Go.Proofs.YtfinpehbpcckaaaGreatDoor
end
section
namespace Go.Proofs.YtfinpehbpcckaaaGreatDoor
open Go.RowKit
set_option linter.unusedVariables false

structure Ent where
  doc : Int
  field : Int
  text : List UInt8
/-- 'A' with 'n' places reads as the entries 'es', in memory below B. -/
def Ents (w : World) (B : Nat) (A : Option Addr) (n : Nat) (es : List Ent) : Prop :=
  n = es.length ∧ ∀ k (hk : k < es.length), ∃ ad, A = some ad ∧ (ad.add (k * 3)).block < B ∧ w.cell? (ad.add (k * 3)) = some (.int .i64 es[k].doc) ∧ w.cell? ⟨(ad.add (k * 3)).block, (ad.add (k * 3)).off + 1, none⟩ = some (.int .i64 es[k].field) ∧ w.cell? ⟨(ad.add (k * 3)).block, (ad.add (k * 3)).off + 2, none⟩ = some (.string (ba es[k].text)) ∧ SpotFits (es[k].doc, es[k].field)
theorem Ents.below {w w' : World} {B n : Nat} {A : Option Addr} {es : List Ent} (h : Ents w B A n es) (hb : Below B w w') : Ents w' B A n es := by
  refine ⟨h.1, fun k hk => ?_⟩
  obtain ⟨ad, e, h1, h2, h3, h4, h5⟩ := h.2 k hk
  exact ⟨ad, e, h1, (hb.cell h1).trans h2, (hb.cell (p := ⟨(ad.add (k * 3)).block, _, none⟩) h1).trans h3, (hb.cell (p := ⟨(ad.add (k * 3)).block, _, none⟩) h1).trans h4, h5⟩
theorem Ents.more {w : World} {B B' n : Nat} {A : Option Addr} {es : List Ent} (h : Ents w B A n es) (hB : B ≤ B') : Ents w B' A n es := by
  refine ⟨h.1, fun k hk => ?_⟩
  obtain ⟨ad, e, h1, h2⟩ := h.2 k hk
  exact ⟨ad, e, Nat.lt_of_lt_of_le h1 hB, h2⟩
theorem Ents.len {w : World} {B n : Nat} {A : Option Addr} {es : List Ent} (h : Ents w B A n es) : es.length = n := h.1.symm
def spotE (e : Ent) : Int × Int := (e.doc, e.field)
/-- The entries used: valid, and the first of their document and field. -/
def useE (U : List Ent) (e : Ent) : List Ent := if countsP e.doc e.field = true ∧ spotE e ∉ U.map spotE then U ++ [e] else U
def usedE (es : List Ent) : List Ent := es.foldl useE []
theorem usedE_snoc (es : List Ent) (e : Ent) : usedE (es ++ [e]) = useE (usedE es) e := by unfold usedE; rw [List.foldl_append]; rfl
theorem usedE_len : ∀ (es U : List Ent), (es.foldl useE U).length ≤ U.length + es.length
  | [], U => Nat.le_refl _
  | e :: r, U => by
    have h := usedE_len r (useE U e)
    have h2 : (useE U e).length ≤ U.length + 1 := by unfold useE; split <;> simp
    rw [List.foldl_cons, List.length_cons]; omega
theorem usedE_mem : ∀ (es U : List Ent) (x : Ent), x ∈ es.foldl useE U → x ∈ U ∨ x ∈ es
  | [], U, x, h => .inl h
  | e :: r, U, x, h => by
    rw [List.foldl_cons] at h
    rcases usedE_mem r _ x h with h | h
    · unfold useE at h
      split at h
      · rcases List.mem_append.1 h with h | h
        · exact .inl h
        · rw [List.mem_singleton] at h; subst h; exact .inr (by simp)
      · exact .inl h
    · exact .inr (by simp [h])
/-- The occurrences of an entry's words. -/
def evOf (e : Ent) : List Ev := (listP e.text).zipIdx.map fun q => ((e.field, q.1), e.doc, (q.2 : Int))
def evsOf (U : List Ent) : List Ev := U.flatMap evOf
theorem evsOf_snoc (U : List Ent) (e : Ent) : evsOf (U ++ [e]) = evsOf U ++ evOf e := by simp [evsOf]
theorem evOf_len (e : Ent) : (evOf e).length = (listP e.text).length := by simp [evOf]
theorem evOf_take {e : Ent} {j : Nat} (hj : j < (listP e.text).length) : (evOf e).take (j + 1) = (evOf e).take j ++ [((e.field, (listP e.text)[j]), e.doc, (j : Int))] := by
  rw [List.take_succ_eq_append_getElem (by rw [evOf_len]; exact hj)]
  congr 2
  simp [evOf]
/-- A set in memory: the keys that P names lead to true. -/
def SetAt {k : TypeId} {κ : Type} (K : KeyKind k κ) (w : World) (b : Nat) (P : κ → Prop) (c : Nat) : Prop := ∃ f, MapAt K w b f c ∧ ∀ x, K.fits x → (P x → f x = some (.bool true)) ∧ (¬ P x → f x = none)
theorem SetAt.keep {k : TypeId} {κ : Type} {K : KeyKind k κ} {w w' : World} {b c : Nat} {P : κ → Prop} (h : SetAt K w b P c) (hb : w'.heap[b]? = w.heap[b]?) : SetAt K w' b P c := by
  obtain ⟨f, h1, h2⟩ := h; exact ⟨f, h1.keep hb, h2⟩
theorem SetAt.made {k : TypeId} {κ : Type} (K : KeyKind k κ) (w : World) : SetAt K (w.alloc (.map #[] 0)) w.heap.size (fun _ => False) 0 := ⟨_, MapAt.made K w, fun x _ => ⟨fun h => h.elim, fun _ => rfl⟩⟩
theorem SetAt.lt {k : TypeId} {κ : Type} {K : KeyKind k κ} {w : World} {b c : Nat} {P : κ → Prop} (h : SetAt K w b P c) : b < w.heap.size := by obtain ⟨f, h1, _⟩ := h; exact h1.lt
theorem SetAt.mono {k : TypeId} {κ : Type} {K : KeyKind k κ} {w : World} {b c : Nat} {P : κ → Prop} (h : SetAt K w b P c) {c' : Nat} (hc : c ≤ c') : SetAt K w b P c' := by
  obtain ⟨f, h1, h2⟩ := h; exact ⟨f, h1.mono hc, h2⟩
theorem SetAt.congr {k : TypeId} {κ : Type} {K : KeyKind k κ} {w : World} {b c : Nat} {P Q : κ → Prop} (h : SetAt K w b P c) (hq : ∀ x, K.fits x → (P x ↔ Q x)) : SetAt K w b Q c := by
  obtain ⟨f, h1, h2⟩ := h; exact ⟨f, h1, fun x hx => ⟨fun q => (h2 x hx).1 ((hq x hx).2 q), fun q => (h2 x hx).2 fun p => q ((hq x hx).1 p)⟩⟩
theorem SetAt.look_in {k t e : TypeId} {κ : Type} {K : KeyKind k κ} {w : World} {b c : Nat} {P : κ → Prop} (h : SetAt K w b P c) (ht : Tryz.prog.underlying t = some (.map k e)) (hz : (zeroValue e).run Tryz.prog w = .ok (.bool false) w) {x : κ} (hx : K.fits x) (hp : P x) :
    (Instr.lookup t (.map (some b)) (K.kv x) false).run Tryz.prog w = .ok (.bool true) w := by
  obtain ⟨f, h1, h2⟩ := h
  rw [h1.look ht hz hx, (h2 x hx).1 hp]; rfl
theorem SetAt.look_out {k t e : TypeId} {κ : Type} {K : KeyKind k κ} {w : World} {b c : Nat} {P : κ → Prop} (h : SetAt K w b P c) (ht : Tryz.prog.underlying t = some (.map k e)) (hz : (zeroValue e).run Tryz.prog w = .ok (.bool false) w) {x : κ} (hx : K.fits x) (hp : ¬ P x) :
    (Instr.lookup t (.map (some b)) (K.kv x) false).run Tryz.prog w = .ok (.bool false) w := by
  obtain ⟨f, h1, h2⟩ := h
  rw [h1.look ht hz hx, (h2 x hx).2 hp]; rfl
theorem SetAt.put {k t e : TypeId} {κ : Type} {K : KeyKind k κ} {w : World} {b c : Nat} {P : κ → Prop} (h : SetAt K w b P c) (ht : Tryz.prog.underlying t = some (.map k e)) (hc : c < maxLen) {x : κ} (hx : K.fits x) :
    ∃ w', (Instr.mapUpdate t (.map (some b)) (K.kv x) (.bool true)).run Tryz.prog w = .ok () w' ∧ SetAt K w' b (fun y => P y ∨ y = x) (c + 1) ∧ w.grownBy w' (some b) := by
  obtain ⟨f, h1, h2⟩ := h
  obtain ⟨w', hrun, hp, hg⟩ := h1.put ht hc hx (.bool true)
  refine ⟨w', hrun, ⟨_, hp, fun y hy => ?_⟩, hg⟩
  by_cases e : y = x
  · subst e
    rw [updK_same]
    exact ⟨fun _ => rfl, fun hn => absurd (.inr rfl) hn⟩
  · rw [updK_other _ _ e]
    refine ⟨fun hh => ?_, fun hn => (h2 y hy).2 fun hh => hn (.inl hh)⟩
    rcases hh with hh | hh
    · exact (h2 y hy).1 hh
    · exact absurd hh e
/-- Blocks that nobody owns stand, and nobody takes them. -/
def Kept (w : World) (tag : Nat → Own) (w' : World) (tag' : Nat → Own) : Prop := w.heap.size ≤ w'.heap.size ∧ ∀ i, i < w.heap.size → tag i = .out → w'.heap[i]? = w.heap[i]? ∧ tag' i = .out
theorem Kept.refl (w : World) (tag : Nat → Own) : Kept w tag w tag := ⟨Nat.le_refl _, fun i _ h => ⟨rfl, h⟩⟩
theorem Kept.trans {a b c : World} {ta tb tc : Nat → Own} (h : Kept a ta b tb) (k : Kept b tb c tc) : Kept a ta c tc :=
  ⟨Nat.le_trans h.1 k.1, fun i hi ho => ⟨(k.2 i (Nat.lt_of_lt_of_le hi h.1) (h.2 i hi ho).2).1.trans (h.2 i hi ho).1, (k.2 i (Nat.lt_of_lt_of_le hi h.1) (h.2 i hi ho).2).2⟩⟩
theorem Kept.below {a b : World} {ta : Nat → Own} (h : Below a.heap.size a b) : Kept a ta b ta := ⟨h.size, fun i hi ho => ⟨h.block i hi, ho⟩⟩
/-- The state at the first loop's head. -/
structure BSt (w : World) (g0 H DD T : Nat) (U : List Ent) (evs : List Ev) (c : Nat) (tag : Nat → Own) (km : Key → Option Value) (wr : World) : Prop where
  had : SetAt spotK wr H (fun p => p ∈ U.map spotE) c
  docs : SetAt intK wr DD (fun d => d ∈ U.map (·.doc)) c
  terms : TermsAt wr w.heap.size tag T evs (fun _ => False) km c
  out : tag H = .out ∧ tag DD = .out ∧ tag g0 = .out
  box : wr.heap[g0]? = some (.cells #[.slice none 0 0, .slice none 0 0] 28 (0, 0))
  bel : Below w.heap.size w wr
end Go.Proofs.YtfinpehbpcckaaaGreatDoor
end
