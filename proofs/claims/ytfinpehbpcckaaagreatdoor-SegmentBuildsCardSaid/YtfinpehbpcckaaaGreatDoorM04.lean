/- Layer 33: the contract of the program's Encode. Layer 33: the reference's Right and Encode. Layer 33: a row of postings of the call's own. Layer 33, plain: how long what is read is. -/
import Derived.Deep.RegionHeld3
import Derived.IntWalk
import Derived.Test.YtfinpehbpcckaaaGreatDoorM03
section
namespace Go.Proofs.YtfinpehbpcckaaaGreatDoor
open Go.RowKit
set_option linter.unusedVariables false

theorem encFrom_len : ∀ (l : List Int) (low a : Int), risesP low l = true → 0 ≤ a → a ≤ low → (encFrom a l).length ≤ 9 * l.length
  | [], low, a, h, h0, h1 => Nat.zero_le _
  | n :: r, low, a, h, h0, h1 => by
    rw [risesP_cons] at h
    have hf : far = 1099511627776 := rfl
    have h2 := vint_len (n - a) (by omega)
    have h3 := encFrom_len r (n + 1) n h.2 (by omega) (by omega)
    simp only [encFrom, List.length_append, List.length_cons]; omega
theorem encPosts_len : ∀ (l : List Post) (low d : Int), (∀ p, p ∈ l → p.places ≠ [] ∧ risesP 0 p.places = true) → (∀ p, p ∈ l → p.places.length ≤ 1000000) → risesP low (l.map (·.doc)) = true → 0 ≤ d → d ≤ low → (encPosts d l).length ≤ 9000018 * l.length
  | [], low, d, h, hl, hr, h0, h1 => Nat.zero_le _
  | p :: r, low, d, h, hl, hr, h0, h1 => by
    rw [List.map_cons, risesP_cons] at hr
    have hf : far = 1099511627776 := rfl
    have h2 := vint_len (p.doc - d) (by omega)
    have h3 := vnum_len 9 p.places.length (by have : (128 : Nat) ^ 9 = 9223372036854775808 := rfl; have := hl p (by simp); omega) (by omega)
    have h4 := encFrom_len p.places 0 0 (h p (by simp)).2 (Int.le_refl _) (Int.le_refl _)
    have h5 := hl p (by simp)
    have h6 := encPosts_len r (p.doc + 1) p.doc (fun q hq => h q (by simp [hq])) (fun q hq => hl q (by simp [hq])) hr.2 (by omega) (by omega)
    simp only [encPosts, List.length_append, List.length_cons]; omega

set_option maxRecDepth 100000 in
/-- The closure that writes a number. -/
theorem put_any (B b : Nat) (l : List UInt8) (n : Int) (w : World) (h : Bld w B b l) (hlen : l.length ≤ 100000000000000) (hBw : B ≤ w.heap.size) (hn : n ≤ 9223372036854775807) :
    Calls Tryz.prog 88 #[.int .i64 n, .pointer (some ⟨b, 0, none⟩)] w (WrotePost w B b (l ++ vint n) (.tuple #[])) := by
  have H := Lib.hid h
  have hv := vint_len n hn
  clear h
  go_enter Tryz.func88, Tryz.ntmps88
  go_wp2_with fail
  refine (num_any n w hn).mono ?_
  rintro e w1 ⟨rfl, h1⟩
  have H1 := Lib.hid (H.out.below h1)
  have HB := Lib.hid h1
  have hs := h1.size
  clear h1
  go_wp2_with fail
  refine (write_string B b l (vint n) w1 H1.out (by omega) (by omega)).mono ?_
  rintro e w2 ⟨rfl, h2⟩
  have H2 := Lib.hid h2
  clear h2
  go_wp2
  go_end0
  refine ⟨rfl, H2.out.bld, (HB.out.mono hBw).trans H2.out.bel, ?_⟩
  refine Lib.OthersKept.trans (fun k o hk _ _ => ?_) H2.out.oth
  rw [HB.out.block k (heap_lt hk)]
  exact hk

theorem Ints.back {w w' : World} {B n : Nat} {A : Option Addr} {l : List Int} (h : Ints w' B A n l) (hb : Below B w w') : Ints w B A n l := ⟨h.1, h.2.1, h.2.2.keep fun p hp => (hb.cell hp).symm⟩
theorem encFrom_take {l : List Int} {t : Nat} (h : t < l.length) : encFrom 0 (l.take (t + 1)) = encFrom 0 (l.take t) ++ vint (gi l t - lastOr 0 (l.take t)) ∧ lastOr 0 (l.take (t + 1)) = gi l t := by
  rw [List.take_succ_eq_append_getElem h, gi_get h]
  exact ⟨encFrom_snoc _ _ _, lastOr_snoc _ _ _⟩
theorem Wrote.box {w w' : World} {B b k : Nat} {l : List UInt8} {cs : Array Value} (h : Wrote w B b l w') (hk : w.heap[k]? = some (.cells cs 52 (0, 0))) (hne : k ≠ b) : w'.heap[k]? = some (.cells cs 52 (0, 0)) :=
  h.oth k _ hk (by simpa using hne) (fun c fz e => by injection e with _ e; exact absurd e (by decide))
theorem lastOr_mem : ∀ (l : List Int) (a : Int), lastOr a l = a ∨ lastOr a l ∈ l
  | [], a => .inl rfl
  | n :: r, a => by
    rcases lastOr_mem r n with h | h
    · right; show lastOr n r ∈ _; rw [h]; simp
    · right; exact List.mem_cons_of_mem _ h
theorem lastOr_bound {l : List Int} {low : Int} (h : risesP low l = true) (h0 : 0 ≤ low) : 0 ≤ lastOr 0 l ∧ lastOr 0 l ≤ 1099511627776 := by
  rcases lastOr_mem l 0 with e | e
  · rw [e]; omega
  · have := risesP_mem l low h _ e
    have hf : far = 1099511627776 := rfl
    omega
theorem risesP_take {l : List Int} {low : Int} (h : risesP low l = true) (k : Nat) : risesP low (l.take k) = true := risesP_append _ _ (l.drop k) (by rw [List.take_append_drop]; exact h)
set_option maxRecDepth 100000 in
set_option maxHeartbeats 2000000 in
theorem encode_any (A : Option Addr) (n c : Nat) (l : List Post) (w : World) (h : Posts w w.heap.size A n l) (hf : FewPosts l) :
    Calls Tryz.prog 35 #[.slice A n c] w (StrPost w (postEnc l)) := by
  have H := Lib.hid h
  have HL := Lib.hid h.len
  have HF := Lib.hid hf
  have hn : n ≤ 1000000 := by rw [h.1]; exact hf.1
  clear h hf
  go_enter Tryz.func35, Tryz.ntmps35
  go_wp2_with fail
  refine (right_any A n c l w H.out HF.out).mono ?_
  rintro e w1 ⟨rfl, hb1⟩
  cases hr : postRight l with
  | false =>
    have HB := Lib.hid hb1
    have HE := Lib.hid (show postEnc l = [] by unfold postEnc; rw [hr]; rfl)
    clear hr hb1
    go_wp2
    go_ret
    exact ⟨by rw [HE.out]; rfl, HB.out⟩
  | true =>
    have hri := postRight_iff.1 hr
    have HRI := Lib.hid hri
    have HE := Lib.hid (show postEnc l = vnum n ++ encPosts 0 l by unfold postEnc; rw [hr, HL.out]; rfl)
    have HP := Lib.hid ((H.out.below hb1).more hb1.size)
    have HNEW := Lib.hid (bld_new w1)
    have HB1 := Lib.hid hb1
    obtain ⟨b, hb⟩ : ∃ x, w1.heap.size = x := ⟨_, rfl⟩
    have hwb : w.heap.size ≤ b := by rw [← hb]; exact hb1.size
    have HBB := Lib.hid hb
    have hvn := vnum_len 9 n (by have : (128 : Nat) ^ 9 = 9223372036854775808 := rfl; omega) (by omega)
    have HN0 := Lib.hid (show Below b w1 (w1.alloc (.cells #[.pointer none, .slice none 0 0] 78)) from (Below.refl _ _).alloc (by rw [hb]; exact Nat.le_refl _) _)
    have hs0 : b ≤ (w1.alloc (.cells #[.pointer none, .slice none 0 0] 78)).heap.size := by simp; omega
    rw [hb] at HNEW HP
    clear hr hb1 hri
    go_wp2_with fail
    refine (put_any b b [] (n : Int) _ HNEW.out (by simp) hs0 (by omega)).mono ?_
    rintro e w2 ⟨rfl, h2⟩
    have H2 := Lib.hid (show Bld w2 b b (vnum n) ∧ Below b w1 w2 from ⟨by have := h2.bld; rw [vint_nat] at this; exact this, HN0.out.trans h2.bel⟩)
    clear h2 hb hs0
    go_wp2
    go_loopw [5, 21] (fun d i wr => ∃ k : Nat, k ≤ n ∧ i = .int .i64 (k : Int) ∧ d = .int .i64 (lastOr 0 ((l.take k).map (·.doc))) ∧ Hid (Bld wr b b (vnum n ++ encPosts 0 (l.take k)) ∧ Below b w1 wr)) (fun _ i _ => n - (intOf i).toNat)
    case atStart => exact ⟨0, Nat.zero_le _, rfl, rfl, by simpa [encPosts] using H2.out.1, H2.out.2⟩
    case round =>
      obtain ⟨k, hk, rfl, rfl, HR⟩ := hrel
      have hsz := HR.out.2.size
      have hbl0 := HR.out.1.lt
      by_cases hlt : k < n
      · have hk2 : (k : Int) < n := by omega
        have hkl : k < l.length := by rw [HL.out]; exact hlt
        have hpl := HF.out.2 _ (List.getElem_mem hkl)
        have hpr := HRI.out.1 _ (List.getElem_mem hkl)
        have hdm := risesP_mem _ _ HRI.out.2 (l[k]).doc (List.mem_map.2 ⟨_, List.getElem_mem hkl, rfl⟩)
        have hlb := lastOr_bound (l := (l.take k).map (·.doc)) (low := 1) (by rw [List.map_take]; exact risesP_take HRI.out.2 k) (by omega)
        have hle := encPosts_len (l.take k) 1 0 (fun p hp => HRI.out.1 p (List.mem_of_mem_take hp)) (fun p hp => HF.out.2 p (List.mem_of_mem_take hp)) (by rw [List.map_take]; exact risesP_take HRI.out.2 k) (Int.le_refl _) (by omega)
        rw [List.length_take, Nat.min_eq_left (by omega)] at hle
        obtain ⟨ad, X, x, c2, rfl, hbl, c0, c1, hx1, hx2, hd, hI⟩ := (HP.out.below HR.out.2).2 k hkl
        have hsn := encPosts_snoc (l.take k) 0 l[k]
        rw [← List.take_succ_eq_append_getElem hkl] at hsn
        have hls : lastOr 0 ((l.take (k + 1)).map (·.doc)) = (l[k]).doc := by rw [List.take_succ_eq_append_getElem hkl, List.map_append]; exact lastOr_snoc _ _ _
        obtain ⟨p, hp⟩ : ∃ p, l[k] = p := ⟨_, rfl⟩
        rw [hp] at c0 hI hpl hpr hdm hsn hls
        have hxl := hI.len
        rw [hxl] at hpl hsn
        obtain ⟨la, hla⟩ : ∃ q, lastOr 0 ((l.take k).map (·.doc)) = q := ⟨_, rfl⟩
        rw [hla] at hlb hsn ⊢
        obtain ⟨pre, hpre⟩ : ∃ q, vnum n ++ encPosts 0 (l.take k) = q := ⟨_, rfl⟩
        have hprl : pre.length ≤ 9 + 9000018 * 1000000 := by rw [← hpre, List.length_append]; omega
        have HSN := Lib.hid (show vnum n ++ encPosts 0 (l.take (k + 1)) = pre ++ (vint (p.doc - la) ++ vnum x ++ encFrom 0 p.places) by rw [hsn, ← hpre]; simp only [List.append_assoc])
        have HLS := Lib.hid hls
        have HXL := Lib.hid hxl
        have HPR := Lib.hid hpr
        have hf : far = 1099511627776 := rfl
        rw [hf] at hdm
        have hvd := vint_len (p.doc - la) (by omega)
        have hvx := vnum_len 9 x (by have : (128 : Nat) ^ 9 = 9223372036854775808 := rfl; omega) (by omega)
        obtain ⟨pb, hpb⟩ : ∃ q, wr.heap.size = q := ⟨_, rfl⟩
        have HBOX := Lib.hid (show (wr.alloc (.cells #[.int .i64 p.doc, .slice X x c2] 52)).heap[pb]? = some (.cells #[.int .i64 p.doc, .slice X x c2] 52 (0, 0)) by rw [← hpb]; exact (MapKept.heap_alloc wr _).1)
        have HNB := Lib.hid (show pb ≠ b by rw [← hpb]; omega)
        have HBA := Lib.hid (show Bld (wr.alloc (.cells #[.int .i64 p.doc, .slice X x c2] 52)) b b pre from by rw [← hpre]; exact HR.out.1.alloc _)
        have HBL := Lib.hid (HR.out.2.alloc (by omega) (.cells #[.int .i64 p.doc, .slice X x c2] 52))
        have hsA : b ≤ (wr.alloc (.cells #[.int .i64 p.doc, .slice X x c2] 52)).heap.size := by simp; omega
        have HIX := Lib.hid hI
        have HPB := Lib.hid hpb
        clear hp hI hxl hla hpre hsn hls hpr hf hpb hle hbl0
        go_wp2_with fail
        rw [HPB.out]
        refine (put_any b b pre (p.doc - la) _ HBA.out (by omega) hsA (by omega)).mono ?_
        rintro e w3 ⟨rfl, h3⟩
        have HI1 := Lib.hid (HIX.out.back HR.out.2)
        have HBOX3 := Lib.hid (h3.box HBOX.out HNB.out)
        have H3 := Lib.hid (And.intro h3.bld (HBL.out.trans h3.bel))
        have d0 : w3.cell? ⟨pb, 0, none⟩ = some (.int .i64 p.doc) := by simp [World.cell?, HBOX3.out]
        have d1 : w3.cell? ⟨pb, 1, none⟩ = some (.slice X x c2) := by simp [World.cell?, HBOX3.out]
        have hs3 := Nat.le_of_lt H3.out.1.lt
        clear h3 c0 c1
        go_wp2_with fail
        refine (put_any b b (pre ++ vint (p.doc - la)) (x : Int) w3 H3.out.1 (by rw [List.length_append]; omega) (by omega) (by omega)).mono ?_
        rintro e w4 ⟨rfl, h4⟩
        have HBOX4 := Lib.hid (h4.box HBOX3.out HNB.out)
        have H4 := Lib.hid (show Bld w4 b b (pre ++ (vint (p.doc - la) ++ vnum x)) ∧ Below b w1 w4 from ⟨by have := h4.bld; rw [vint_nat, List.append_assoc] at this; exact this, H3.out.2.trans h4.bel⟩)
        clear h4 d0 d1
        have d0 : w4.cell? ⟨pb, 0, none⟩ = some (.int .i64 p.doc) := by simp [World.cell?, HBOX4.out]
        have d1 : w4.cell? ⟨pb, 1, none⟩ = some (.slice X x c2) := by simp [World.cell?, HBOX4.out]
        obtain ⟨pre2, hpre2⟩ : ∃ q, pre ++ (vint (p.doc - la) ++ vnum x) = q := ⟨_, rfl⟩
        rw [hpre2] at H4
        have hp2l : pre2.length ≤ 9 + 9000018 * 1000000 + 18 := by rw [← hpre2]; simp only [List.length_append]; omega
        have HSN2 := Lib.hid (show vnum n ++ encPosts 0 (l.take (k + 1)) = pre2 ++ encFrom 0 p.places by rw [HSN.out, ← hpre2]; simp only [List.append_assoc])
        clear hpre2 hs3
        go_wp2
        clear d0 d1
        go_loopw [8, 41] (fun a i wr' => ∃ t : Nat, t ≤ x ∧ i = .int .i64 (t : Int) ∧ a = .int .i64 (lastOr 0 (p.places.take t)) ∧ Hid (Bld wr' b b (pre2 ++ encFrom 0 (p.places.take t)) ∧ Below b w1 wr')) (fun _ i _ => x - (intOf i).toNat)
        case atStart => exact ⟨0, Nat.zero_le _, rfl, rfl, by simpa [encFrom] using H4.out.1, H4.out.2⟩
        case round =>
          obtain ⟨t, ht, rfl, rfl, HR2⟩ := hrel
          have hsz2 := Nat.le_of_lt HR2.out.1.lt
          by_cases htx : t < x
          · have ht2 : (t : Int) < x := by omega
            have htl : t < p.places.length := by rw [HXL.out]; exact htx
            obtain ⟨xd, rfl, _, e1⟩ := (HI1.out.below HR2.out.2).at_ htx
            have hgm := risesP_mem _ _ HPR.out.2 (gi p.places t) (by rw [gi_get htl]; exact List.getElem_mem htl)
            have hf : far = 1099511627776 := rfl
            rw [hf] at hgm
            have hlb2 := lastOr_bound (risesP_take HPR.out.2 t) (Int.le_refl _)
            have hle2 := encFrom_len (p.places.take t) 0 0 (risesP_take HPR.out.2 t) (Int.le_refl _) (Int.le_refl _)
            rw [List.length_take, Nat.min_eq_left (by omega)] at hle2
            have hst := encFrom_take htl
            obtain ⟨lb, hlb3⟩ : ∃ q, lastOr 0 (p.places.take t) = q := ⟨_, rfl⟩
            rw [hlb3] at hlb2 hst ⊢
            have HST := Lib.hid hst
            clear hst hlb3 hf
            go_wp2_with fail
            refine (put_any b b (pre2 ++ encFrom 0 (p.places.take t)) (gi p.places t - lb) wr HR2.out.1 (by rw [List.length_append]; omega) (by omega) (by omega)).mono ?_
            rintro e w5 ⟨rfl, h5⟩
            have H5 := Lib.hid (And.intro h5.bld (HR2.out.2.trans h5.bel))
            clear h5 e1
            go_wp2
            go_roundw
            case rel =>
              refine ⟨t + 1, by omega, by go_num, by rw [HST.out.2], ?_, H5.out.2⟩
              rw [HST.out.1, ← List.append_assoc]
              exact H5.out.1
            case measure => simp [intOf] <;> omega
          · obtain rfl : t = x := by omega
            have HFX := Lib.hid (show Bld wr b b (vnum n ++ encPosts 0 (l.take (k + 1))) ∧ Below b w1 wr from ⟨by
              have := HR2.out.1
              rw [List.take_of_length_le (by rw [HXL.out]; exact Nat.le_refl _)] at this
              rw [HSN2.out]; exact this, HR2.out.2⟩)
            go_wp2
            go_roundw
            case rel => exact ⟨k + 1, by omega, by go_num, by rw [HLS.out], HFX.out⟩
            case measure => simp [intOf] <;> omega
      · obtain rfl : k = n := by omega
        have HFIN := Lib.hid (show Bld wr b b (postEnc l) by
          have := HR.out.1
          rw [List.take_of_length_le (by rw [HL.out]; exact Nat.le_refl _)] at this
          rw [HE.out]; exact this)
        go_wp2_with fail
        refine (bld_string b b _ wr HFIN.out (by omega)).mono ?_
        rintro e w5 ⟨rfl, h5⟩
        have H5 := Lib.hid (HB1.out.trans ((HR.out.2.trans h5.bel).mono hwb))
        clear h5
        go_wp2
        go_ret
        exact ⟨rfl, H5.out⟩
end Go.Proofs.YtfinpehbpcckaaaGreatDoor
end
section
namespace Go.Proofs.YtfinpehbpcckaaaGreatDoor
open Go.RowKit
set_option linter.unusedVariables false

/-- Two cells that old memory holds stay behind a call that makes memory. -/
theorem held_two {w W W' : World} {A0 A1 : Addr} {v0 v1 : Value} (h0 : A0.block < w.heap.size) (h1 : A1.block < w.heap.size) (c0 : W.cell? A0 = some v0) (c1 : W.cell? A1 = some v1) (hb : Hid (Below w.heap.size w W)) (h : Below W.heap.size W W') :
    W'.cell? A0 = some v0 ∧ W'.cell? A1 = some v1 ∧ Hid (Below w.heap.size w W') := by
  have hs := hb.out.size
  exact ⟨(h.cell (by omega)).trans c0, (h.cell (by omega)).trans c1, hb.out.trans (h.mono hs)⟩
theorem held_two' {w W W' : World} {A0 A1 : Addr} {v0 v1 : Value} (h0 : A0.block < w.heap.size) (h1 : A1.block < w.heap.size) (c : W.cell? A0 = some v0 ∧ W.cell? A1 = some v1 ∧ Hid (Below w.heap.size w W)) (h : Below W.heap.size W W') :
    W'.cell? A0 = some v0 ∧ W'.cell? A1 = some v1 ∧ Hid (Below w.heap.size w W') := held_two h0 h1 c.1 c.2.1 c.2.2 h
/-- The reference's test, from document d on. -/
def rRight : Int → List Post → Bool
  | _, [] => true
  | d, p :: r => (decide (d < p.doc ∧ p.doc ≤ far) && !p.places.isEmpty && risesP 0 p.places) && rRight p.doc r
theorem rRight_eq : ∀ (l : List Post) (d : Int), rRight d l = ((l.all fun p => !p.places.isEmpty && risesP 0 p.places) && risesP (d + 1) (l.map (·.doc)))
  | [], d => rfl
  | p :: r, d => by
    unfold rRight
    rw [rRight_eq r p.doc, List.all_cons, List.map_cons]
    show _ = (_ && (decide (d + 1 ≤ p.doc ∧ p.doc ≤ far) && risesP (p.doc + 1) (r.map (·.doc))))
    have : decide (d + 1 ≤ p.doc ∧ p.doc ≤ far) = decide (d < p.doc ∧ p.doc ≤ far) := decide_eq_decide.2 (by omega)
    rw [this]
    cases decide (d < p.doc ∧ p.doc ≤ far) <;> cases (!p.places.isEmpty) <;> cases risesP 0 p.places <;> simp
theorem rRight_all (l : List Post) : rRight 0 l = postRight l := rRight_eq l 0
theorem rRight_drop {l : List Post} {k : Nat} (hk : k < l.length) (d : Int) : rRight d (l.drop k) = ((decide (d < l[k].doc ∧ l[k].doc ≤ far) && !l[k].places.isEmpty && risesP 0 l[k].places) && rRight l[k].doc (l.drop (k + 1))) := by
  rw [drop_cons' hk]; rfl

set_option maxRecDepth 100000 in
set_option maxHeartbeats 2000000 in
theorem rright_any (A : Option Addr) (n c : Nat) (l : List Post) (w : World) (h : Posts w w.heap.size A n l) (hf : FewPosts l) :
    Calls Tryz.prog 96 #[.slice A n c] w fun e w' => e = .returned (.bool (postRight l)) ∧ w = w' := by
  rw [← rRight_all]
  have H := Lib.hid h
  have HL := Lib.hid h.len
  have HF := Lib.hid hf
  have hn : n ≤ 1000000 := by rw [h.1]; exact hf.1
  clear h hf
  go_enter Tryz.func96, Tryz.ntmps96
  go_wp2
  go_loop [3, 4] (fun d i => ∃ (k : Nat) (x : Int), k ≤ n ∧ i = .int .i64 (k : Int) ∧ d = .int .i64 x ∧ 0 ≤ x ∧ x ≤ 1099511627776 ∧ Hid (rRight 0 l = rRight x (l.drop k))) (fun _ i => n - (intOf i).toNat)
  case atStart => exact ⟨0, 0, Nat.zero_le _, rfl, rfl, Int.le_refl _, by omega, rfl⟩
  case round =>
    obtain ⟨k, x, hk, rfl, rfl, hx0, hx1, HR⟩ := hrel
    by_cases hlt : k < n
    · have hk2 : (k : Int) < n := by omega
      have hkl : k < l.length := by rw [HL.out]; exact hlt
      have hpl := HF.out.2 _ (List.getElem_mem hkl)
      obtain ⟨ad, X, m, cx, rfl, hbl, c0, c1, hm1, hm2, hd, hI⟩ := H.out.2 k hkl
      have hst := rRight_drop hkl x
      obtain ⟨p, hp⟩ : ∃ p, l[k] = p := ⟨_, rfl⟩
      rw [hp] at c0 hI hpl hd hst
      obtain ⟨d, hdd⟩ : ∃ d, p.doc = d := ⟨_, rfl⟩
      obtain ⟨pl, hpll⟩ : ∃ q, p.places = q := ⟨_, rfl⟩
      rw [hdd] at c0 hd hst
      rw [hpll] at hI hpl hst
      have hxl := hI.len
      rw [hxl] at hpl
      have hff : far = 1099511627776 := rfl
      rw [hff] at hst
      have HST := Lib.hid hst
      have HXL := Lib.hid hxl
      have HI := Lib.hid hI
      clear hp hI hxl hst hff hdd hpll
      by_cases h1 : d ≤ x
      · have HFF := Lib.hid (show rRight 0 l = false by rw [HR.out, HST.out, decide_eq_false (by omega)]; rfl)
        go_wp2
        go_ret
        exact ⟨ret_bool HFF.out.symm, rfl⟩
      · have h1' : ¬ d ≤ x := h1
        by_cases h2 : (1099511627776 : Int) < d
        · have HFF := Lib.hid (show rRight 0 l = false by rw [HR.out, HST.out, decide_eq_false (by omega)]; rfl)
          go_wp2
          go_ret
          exact ⟨ret_bool HFF.out.symm, rfl⟩
        · have h2' : ¬ (1099511627776 : Int) < d := h2
          by_cases hx0 : m = 0
          · have hd0 : ((m : Int) == 0) = true := by simpa using hx0
            have HFF := Lib.hid (show rRight 0 l = false by
              have : pl = [] := List.eq_nil_of_length_eq_zero (by rw [HXL.out]; exact hx0)
              rw [HR.out, HST.out, this]; simp)
            clear hx0
            go_wp2
            go_ret
            exact ⟨ret_bool HFF.out.symm, rfl⟩
          · have hd0 : ((m : Int) == 0) = false := by simpa using hx0
            have HST2 := Lib.hid (show rRight 0 l = (risesP 0 pl && rRight d (l.drop (k + 1))) by
              have : pl.isEmpty = false := by
                cases hpp : pl with
                | nil => have := HXL.out; rw [hpp] at this; exact absurd this.symm hx0
                | cons a r => rfl
              rw [HR.out, HST.out, this, decide_eq_true (by omega)]; simp)
            clear hx0
            go_wp2
            go_loop [5, 6] (fun a i => ∃ (t : Nat) (y : Int), t ≤ m ∧ i = .int .i64 (t : Int) ∧ a = .int .i64 y ∧ -1 ≤ y ∧ y ≤ 1099511627776 ∧ Hid (rRight 0 l = (risesP (y + 1) (pl.drop t) && rRight d (l.drop (k + 1))))) (fun _ i => m - (intOf i).toNat)
            case atStart => exact ⟨0, -1, Nat.zero_le _, rfl, rfl, Int.le_refl _, by omega, HST2.out⟩
            case round =>
              obtain ⟨t, y, ht, rfl, rfl, hy0, hy1, HR2⟩ := hrel
              by_cases htm : t < m
              · have ht2 : (t : Int) < m := by omega
                have htl : t < pl.length := by rw [HXL.out]; exact htm
                obtain ⟨xd, rfl, _, e1⟩ := HI.out.at_ htm
                have hst := risesP_drop htl (y + 1)
                obtain ⟨z, hz⟩ : ∃ z, gi pl t = z := ⟨_, rfl⟩
                rw [hz] at e1 hst
                have hff : far = 1099511627776 := rfl
                rw [hff] at hst
                have HS2 := Lib.hid hst
                clear hz hst hff
                by_cases g1 : z ≤ y
                · have HFF := Lib.hid (show rRight 0 l = false by rw [HR2.out, HS2.out, decide_eq_false (by omega)]; rfl)
                  go_wp2
                  go_ret
                  exact ⟨ret_bool HFF.out.symm, rfl⟩
                · have g1' : ¬ z ≤ y := g1
                  by_cases g2 : (1099511627776 : Int) < z
                  · have HFF := Lib.hid (show rRight 0 l = false by rw [HR2.out, HS2.out, decide_eq_false (by omega)]; rfl)
                    go_wp2
                    go_ret
                    exact ⟨ret_bool HFF.out.symm, rfl⟩
                  · have g2' : ¬ (1099511627776 : Int) < z := g2
                    have HN := Lib.hid (show rRight 0 l = (risesP (z + 1) (pl.drop (t + 1)) && rRight d (l.drop (k + 1))) by rw [HR2.out, HS2.out, decide_eq_true (by omega)]; rfl)
                    go_wp2
                    go_round
                    case rel => exact ⟨t + 1, z, by omega, by go_num, rfl, by omega, by omega, HN.out⟩
                    case measure => simp [intOf] <;> omega
              · obtain rfl : t = m := by omega
                have HN := Lib.hid (show rRight 0 l = rRight d (l.drop (k + 1)) by rw [HR2.out, List.drop_of_length_le (by rw [HXL.out]; exact Nat.le_refl _)]; rfl)
                go_wp2
                go_round
                case rel => exact ⟨k + 1, d, by omega, by go_num, rfl, by omega, by omega, HN.out⟩
                case measure => simp [intOf] <;> omega
    · obtain rfl : k = n := by omega
      have HFF := Lib.hid (show rRight 0 l = true by rw [HR.out, List.drop_of_length_le (by rw [HL.out]; exact Nat.le_refl _)]; rfl)
      go_wp2
      go_ret
      exact ⟨ret_bool HFF.out.symm, rfl⟩

set_option maxRecDepth 100000 in
set_option maxHeartbeats 4000000 in
theorem rencode_any (A : Option Addr) (n c : Nat) (l : List Post) (w : World) (h : Posts w w.heap.size A n l) (hf : FewPosts l) :
    Calls Tryz.prog 44 #[.slice A n c] w (StrPost w (postEnc l)) := by
  have H := Lib.hid h
  have HL := Lib.hid h.len
  have HF := Lib.hid hf
  have hn : n ≤ 1000000 := by rw [h.1]; exact hf.1
  clear h hf
  go_enter Tryz.func44, Tryz.ntmps44
  go_wp2_with fail
  refine (rright_any A n c l w H.out HF.out).mono ?_
  rintro e w1 ⟨rfl, rfl⟩
  cases hr : postRight l with
  | false =>
    have HE := Lib.hid (show postEnc l = [] by unfold postEnc; rw [hr]; rfl)
    clear hr
    go_wp2
    go_ret
    exact ⟨by rw [HE.out]; rfl, Below.refl _ _⟩
  | true =>
    have hri := postRight_iff.1 hr
    have HRI := Lib.hid hri
    have HE := Lib.hid (show postEnc l = vnum n ++ encPosts 0 l by unfold postEnc; rw [hr, HL.out]; rfl)
    clear hr hri
    go_wp2_with fail
    refine (rnum_nat n w (by omega)).mono ?_
    rintro e w1 ⟨rfl, h1⟩
    have H1 := Lib.hid h1
    have hvn := vnum_len 9 n (by have : (128 : Nat) ^ 9 = 9223372036854775808 := rfl; omega) (by omega)
    clear h1
    go_wp2
    go_loopw [4, 5, 6] (fun o d i wr => ∃ k : Nat, k ≤ n ∧ i = .int .i64 (k : Int) ∧ d = .int .i64 (lastOr 0 ((l.take k).map (·.doc))) ∧ o = .string (ba (vnum n ++ encPosts 0 (l.take k))) ∧ Hid (Below w.heap.size w wr)) (fun _ _ i _ => n - (intOf i).toNat)
    case atStart => exact ⟨0, Nat.zero_le _, rfl, rfl, by simp [encPosts], H1.out⟩
    case round =>
      obtain ⟨k, hk, rfl, rfl, rfl, HR⟩ := hrel
      have hsz := HR.out.size
      by_cases hlt : k < n
      · have hk2 : (k : Int) < n := by omega
        have hkl : k < l.length := by rw [HL.out]; exact hlt
        have hpl := HF.out.2 _ (List.getElem_mem hkl)
        have hpr := HRI.out.1 _ (List.getElem_mem hkl)
        have hdm := risesP_mem _ _ HRI.out.2 (l[k]).doc (List.mem_map.2 ⟨_, List.getElem_mem hkl, rfl⟩)
        have hlb := lastOr_bound (l := (l.take k).map (·.doc)) (low := 1) (by rw [List.map_take]; exact risesP_take HRI.out.2 k) (by omega)
        have hle := encPosts_len (l.take k) 1 0 (fun p hp => HRI.out.1 p (List.mem_of_mem_take hp)) (fun p hp => HF.out.2 p (List.mem_of_mem_take hp)) (by rw [List.map_take]; exact risesP_take HRI.out.2 k) (Int.le_refl _) (by omega)
        rw [List.length_take, Nat.min_eq_left (by omega)] at hle
        obtain ⟨ad, X, x, c2, rfl, hbl, c0w, c1w, hx1, hx2, hd, hI⟩ := H.out.2 k hkl
        have hsn := encPosts_snoc (l.take k) 0 l[k]
        rw [← List.take_succ_eq_append_getElem hkl] at hsn
        have hls : lastOr 0 ((l.take (k + 1)).map (·.doc)) = (l[k]).doc := by rw [List.take_succ_eq_append_getElem hkl, List.map_append]; exact lastOr_snoc _ _ _
        obtain ⟨p, hp⟩ : ∃ p, l[k] = p := ⟨_, rfl⟩
        rw [hp] at c0w hI hpl hpr hdm hsn hls
        have hxl := hI.len
        rw [hxl] at hpl hsn
        obtain ⟨la, hla⟩ : ∃ q, lastOr 0 ((l.take k).map (·.doc)) = q := ⟨_, rfl⟩
        rw [hla] at hlb hsn ⊢
        obtain ⟨pre, hpre⟩ : ∃ q, vnum n ++ encPosts 0 (l.take k) = q := ⟨_, rfl⟩
        rw [hpre]
        have hprl : pre.length ≤ 9 + 9000018 * 1000000 := by rw [← hpre, List.length_append]; omega
        have HSN := Lib.hid (show vnum n ++ encPosts 0 (l.take (k + 1)) = pre ++ vint (p.doc - la) ++ vnum x ++ encFrom 0 p.places by rw [hsn, ← hpre]; simp only [List.append_assoc])
        have HLS := Lib.hid hls
        have HXL := Lib.hid hxl
        have HPR := Lib.hid hpr
        have hf : far = 1099511627776 := rfl
        rw [hf] at hdm
        obtain ⟨d, hdd⟩ : ∃ d, p.doc = d := ⟨_, rfl⟩
        rw [hdd] at hdm c0w HSN HLS
        have c0 := (HR.out.cell hbl).trans c0w
        have c1 := (HR.out.cell (p := ⟨(ad.add (k * 2)).block, (ad.add (k * 2)).off + 1, none⟩) hbl).trans c1w
        have C0W := Lib.hid c0w
        have C1W := Lib.hid c1w
        have hvd := vint_len (d - la) (by omega)
        have hvx := vnum_len 9 x (by have : (128 : Nat) ^ 9 = 9223372036854775808 := rfl; omega) (by omega)
        have HI := Lib.hid (show Ints w w.heap.size X x p.places from hI)
        clear hp hI hxl hla hpre hsn hls hpr hf hle hdd hd c0w c1w
        have HRD : Hid (Below w.heap.size w wr.drew) := HR.out.drew
        have hcat1 : ¬ 9223372036854775807 < (ba pre).size + (ba (vint (d - la))).size := by rw [ba_size, ba_size]; omega
        have hcat2 : ¬ 9223372036854775807 < (ba pre).size + (ba (vint (d - la))).size + (ba (vnum x)).size := by rw [ba_size, ba_size, ba_size]; omega
        have y1 : IntKind.i64.wrap (d - la) = d - la := IntWalk.i64_in _ (by omega)
        go_wp2_with fail
        go_region_held3 (fun w' => w'.cell? (ad.add (k * 2)) = some (.int .i64 d) ∧ w'.cell? ⟨(ad.add (k * 2)).block, (ad.add (k * 2)).off + 1, none⟩ = some (.slice X x c2) ∧ Hid (Below w.heap.size w w')) ((first | exact ⟨c0, c1, HRD⟩ | exact held_two hbl hbl c0 c1 HRD hbel | (refine held_two hbl hbl ?_ ?_ ?_ hbel <;> assumption) | (refine held_two' hbl hbl ?_ hbel; assumption) | (trace_state; go_keep))) (first | (go_at_call_of 52 (Value.int .i64 (d - la)); refine (rnum_any (d - la) _ (by omega)).mono ?_; rintro e w' ⟨rfl, hbel⟩) | (go_at_call_of 52 (Value.int .i64 (x : Int)); refine (rnum_nat x _ (by omega)).mono ?_; rintro e w' ⟨rfl, hbel⟩))
        rename_i hHeld
        obtain ⟨e0, e1, HBE⟩ := hHeld
        generalize w' = w5 at e0 e1 HBE ⊢
        clear hbel y1 c0 c1 HRD hcat1 hcat2
        rw [ba_append, ba_append]
        obtain ⟨pre2, hpre2⟩ : ∃ q, pre ++ vint (d - la) ++ vnum x = q := ⟨_, rfl⟩
        rw [hpre2] at HSN ⊢
        have hp2l : pre2.length ≤ 9 + 9000018 * 1000000 + 18 := by rw [← hpre2]; simp only [List.length_append]; omega
        clear hpre2
        go_wp2
        clear e0 e1
        go_loopw [4, 7, 8] (fun o a i wr' => ∃ t : Nat, t ≤ x ∧ i = .int .i64 (t : Int) ∧ a = .int .i64 (lastOr 0 (p.places.take t)) ∧ o = .string (ba (pre2 ++ encFrom 0 (p.places.take t))) ∧ Hid (Below w.heap.size w wr')) (fun _ _ i _ => x - (intOf i).toNat)
        case atStart => exact ⟨0, Nat.zero_le _, rfl, rfl, by simp [encFrom], HBE.out⟩
        case round =>
          obtain ⟨t, ht, rfl, rfl, rfl, HR2⟩ := hrel
          have hsz2 := HR2.out.size
          have e1 := (HR2.out.cell (p := ⟨(ad.add (k * 2)).block, (ad.add (k * 2)).off + 1, none⟩) hbl).trans C1W.out
          by_cases htx : t < x
          · have ht2 : (t : Int) < x := by omega
            have htl : t < p.places.length := by rw [HXL.out]; exact htx
            obtain ⟨xd, rfl, hxb, e2⟩ := (HI.out.below HR2.out).at_ htx
            have hgm := risesP_mem _ _ HPR.out.2 (gi p.places t) (by rw [gi_get htl]; exact List.getElem_mem htl)
            have hf : far = 1099511627776 := rfl
            rw [hf] at hgm
            have hlb2 := lastOr_bound (risesP_take HPR.out.2 t) (Int.le_refl _)
            have hle2 := encFrom_len (p.places.take t) 0 0 (risesP_take HPR.out.2 t) (Int.le_refl _) (Int.le_refl _)
            rw [List.length_take, Nat.min_eq_left (by omega)] at hle2
            have hst := encFrom_take htl
            obtain ⟨lb, hlb3⟩ : ∃ q, lastOr 0 (p.places.take t) = q := ⟨_, rfl⟩
            rw [hlb3] at hlb2 hst ⊢
            have HST := Lib.hid hst
            have hvg := vint_len (gi p.places t - lb) (by omega)
            have hcat : ¬ 9223372036854775807 < (ba (pre2 ++ encFrom 0 (p.places.take t))).size + (ba (vint (gi p.places t - lb))).size := by rw [ba_size, ba_size, List.length_append]; omega
            clear hst hlb3 hf
            go_wp2_with fail
            refine (rnum_any (gi p.places t - lb) wr (by omega)).mono ?_
            rintro e w6 ⟨rfl, h6⟩
            have HB6 := Lib.hid (HR2.out.trans (h6.mono hsz2))
            clear e1 e2 h6
            have e1 := (HB6.out.cell (p := ⟨(ad.add (k * 2)).block, (ad.add (k * 2)).off + 1, none⟩) hbl).trans C1W.out
            obtain ⟨xd', ex, _, e2⟩ := (HI.out.below HB6.out).at_ htx
            injection ex with ex
            subst ex
            go_wp2
            go_roundw
            case rel =>
              refine ⟨t + 1, by omega, by go_num, by rw [HST.out.2], ?_, HB6.out⟩
              rw [HST.out.1, ← List.append_assoc, ba_append]
            case measure => simp [intOf] <;> omega
          · obtain rfl : t = x := by omega
            have HFX := Lib.hid (show pre2 ++ encFrom 0 (p.places.take t) = vnum n ++ encPosts 0 (l.take (k + 1)) by
              rw [List.take_of_length_le (by rw [HXL.out]; exact Nat.le_refl _), HSN.out])
            go_wp2
            go_roundw
            case rel => exact ⟨k + 1, by omega, by go_num, by rw [HLS.out], by rw [HFX.out], HR2.out⟩
            case measure => simp [intOf] <;> omega
      · obtain rfl : k = n := by omega
        go_wp2
        go_ret
        refine ⟨?_, HR.out⟩
        rw [HE.out, List.take_of_length_le (by rw [HL.out]; exact Nat.le_refl _)]
        rfl
end Go.Proofs.YtfinpehbpcckaaaGreatDoor
end
section
namespace Go.Proofs.YtfinpehbpcckaaaGreatDoor
open Go.RowKit
set_option linter.unusedVariables false

theorem Ints.keepAt {w w' : World} {B B' n : Nat} {A : Option Addr} {l : List Int} (h : Ints w B A n l) (hB : B ≤ B') (hk : ∀ ad, A = some ad → w'.heap[ad.block]? = w.heap[ad.block]?) : Ints w' B' A n l := by
  refine ⟨h.1, h.2.1, ?_⟩
  rcases h.2.2 with e | ⟨ad, e, h1, h2⟩
  · exact .inl e
  · refine .inr ⟨ad, e, by omega, fun j u hu => ?_⟩
    exact (World.cell?_of_block (a := ad.add j) (by rw [add_block]; exact hk ad e)).trans (h2 j u hu)
theorem post_info : (Tryz.prog.info? 52).map (fun i => (i.zero, i.size, i.bytes)) = some (some (.agg #[.int .i64 0, .slice none 0 0]), 2, 32) := by kernel_rfl
def postCells (p : Post × Value) : List Value := [.int .i64 p.1.doc, p.2]
/-- The places of a posting, in memory apart from block g. -/
def PlacesIn (w : World) (g : Option Nat) (p : Post × Value) : Prop := ∃ X x c, p.2 = .slice X x c ∧ x ≤ c ∧ c ≤ maxLen ∧ (-9223372036854775808 ≤ p.1.doc ∧ p.1.doc ≤ 9223372036854775807) ∧ Ints w w.heap.size X x p.1.places ∧ (p.1.places ≠ [] → ∀ ad, X = some ad → g ≠ some ad.block)
/-- v owns the postings ps, in a row of its own from B on. -/
structure OwnPosts (w : World) (B : Nat) (v : Value) (ps : List (Post × Value)) : Prop where
  row : w.ownsRow B 52 2 v ps.length (ps.flatMap postCells)
  each : ∀ p, p ∈ ps → PlacesIn w v.ownBlock p
theorem OwnPosts.nil_ (w : World) (B : Nat) : OwnPosts w B (.slice none 0 0) [] := ⟨World.ownsRow_nil _ _ _ _, fun p hp => by cases hp⟩
theorem PlacesIn.below {w w' : World} {g : Option Nat} {p : Post × Value} (h : PlacesIn w g p) (hb : Below w.heap.size w w') : PlacesIn w' g p := by
  obtain ⟨X, x, c, e, h1, h2, h3, h4, h5⟩ := h
  exact ⟨X, x, c, e, h1, h2, h3, (h4.below hb).more hb.size, h5⟩
/-- Blocks that are not F's stand. -/
theorem OwnPosts.off {w w' : World} {B : Nat} {v : Value} {ps : List (Post × Value)} (h : OwnPosts w B v ps) {F : Nat → Prop} (hO : Off F w w') (hv : ∀ b, v.ownBlock = some b → ¬ F b) (hp : ∀ p, p ∈ ps → p.1.places ≠ [] → ∀ ad n c, p.2 = .slice (some ad) n c → ¬ F ad.block) : OwnPosts w' B v ps := by
  refine ⟨ownsRow_block h.row fun b e => hO.block b (h.row.lt b e).2 (hv b e), fun p hm => ?_⟩
  obtain ⟨X, x, c, e, h1, h2, h3, h4, h5⟩ := h.each p hm
  refine ⟨X, x, c, e, h1, h2, h3, ?_, h5⟩
  by_cases hne : p.1.places = []
  · exact ⟨h4.1, h4.2.1, .inl (by rw [hne]; rfl)⟩
  · rcases h4.2.2 with e0 | ⟨ad, e1, hl, _⟩
    · exact ⟨h4.1, h4.2.1, .inl e0⟩
    · exact h4.keepAt hO.size fun ad' e' => by
        rw [e1] at e'
        have e2 := Option.some.inj e'
        subst e2
        exact hO.block _ hl (hp p hm hne ad x c (by rw [e, e1]))
/-- A block of other cells than integers and postings is none of the row's. -/
theorem OwnPosts.apart {w w' : World} {B b : Nat} {v : Value} {ps : List (Post × Value)} (h : OwnPosts w B v ps) {cs : Array Value} {t : TypeId} (hb : w.heap[b]? = some (.cells cs t (0, 0))) (ht : t ≠ 52) (hc : ∀ (j : Nat) (i : Int), cs[j]? ≠ some (Value.int .i64 i)) (hO : Off (· = b) w w') : OwnPosts w' B v ps := by
  refine h.off hO (fun g e eb => ?_) (fun p hm hne ad n c e eb => ?_)
  · have eb : g = b := eb
    subst eb
    rcases h.row.2 with ⟨rfl, _⟩ | ⟨g', cap, cur, rfl, _, hg, _⟩
    · cases e
    · have e2 : g' = g := Option.some.inj e
      subst e2
      rw [hg] at hb
      injection hb with hb
      injection hb with _ hb
      exact ht hb.symm
  · have eb : ad.block = b := eb
    obtain ⟨X, x, c', e', _, _, _, h4, _⟩ := h.each p hm
    rw [e'] at e
    injection e with e1 e2 e3
    subst e1
    have hpos : 0 < x := by rw [h4.1]; exact List.length_pos_iff.2 hne
    obtain ⟨ad', e4, _, hcell⟩ := h4.at_ hpos
    have e5 := Option.some.inj e4
    subst e5
    have hadd : ad.add 0 = ad := by unfold Addr.add; rfl
    rw [hadd] at hcell
    unfold World.cell? at hcell
    rw [eb, hb] at hcell
    simp at hcell
    exact hc _ _ hcell.2
theorem OwnPosts.below {w w' : World} {B : Nat} {v : Value} {ps : List (Post × Value)} (h : OwnPosts w B v ps) (hb : Below w.heap.size w w') : OwnPosts w' B v ps :=
  ⟨ownsRow_block h.row fun b e => hb.block b (h.row.lt b e).2, fun p hm => (h.each p hm).below hb⟩
theorem post_len : ∀ ps : List (Post × Value), (ps.flatMap postCells).length = ps.length * 2 := fun l => by induction l with | nil => rfl | cons a r ih => simp [postCells] at ih ⊢; omega
theorem post_get : ∀ (l : List (Post × Value)) j (hj : j < l.length) i (hi : i < 2), (l.flatMap postCells)[j * 2 + i]? = (postCells l[j])[i]? := fun l => by
  induction l with
  | nil => intro j hj; simp at hj
  | cons a r ih =>
    intro j hj i hi
    cases j with
    | zero =>
      simp only [List.flatMap_cons, List.getElem_cons_zero, Nat.zero_mul, Nat.zero_add]
      rw [List.getElem?_append_left (by simp [postCells]; omega)]
    | succ j =>
      have := ih j (by simpa using hj) i hi
      simp only [List.flatMap_cons, List.getElem_cons_succ]
      rw [List.getElem?_append_right (by simp [postCells]; omega), show (j + 1) * 2 + i - (postCells a).length = j * 2 + i by simp [postCells]; omega]
      exact this
/-- Postings that a slice owns, read. -/
theorem OwnPosts.posts {w : World} {B : Nat} {v : Value} {ps : List (Post × Value)} (h : OwnPosts w B v ps) : ∃ A cap, v = .slice A ps.length cap ∧ ps.length ≤ cap ∧ cap ≤ maxLen ∧ Posts w w.heap.size A ps.length (ps.map (·.1)) := by
  have h1 := h.row
  rcases h1.2 with ⟨rfl, h0⟩ | ⟨g, cap, cur, rfl, hb, hg, q1, q2, q3⟩
  · have : ps = [] := List.eq_nil_of_length_eq_zero h0
    subst this
    exact ⟨none, 0, rfl, Nat.le_refl _, by simp, Posts.nil_⟩
  · refine ⟨_, cap, rfl, q1, q2, by simp, fun k hk => ?_⟩
    have hk' : k < ps.length := by simpa using hk
    obtain ⟨X, x, c, e, r1, r2, r3, r4, -⟩ := h.each _ (List.getElem_mem hk')
    have hc : ∀ i u, i < 2 → (postCells ps[k])[i]? = some u → w.cell? ⟨g, k * 2 + i, none⟩ = some u := fun i u hi hu => by
      have := h1.cells (g := g) rfl (k * 2 + i) u (by rw [post_get ps k hk' i hi]; exact hu)
      unfold Addr.add at this
      by_cases e0 : k * 2 + i = 0
      · rw [if_pos e0] at this; rw [e0]; exact this
      · rw [if_neg e0] at this; rw [Nat.zero_add] at this; exact this
    have c0 := hc 0 _ (by omega) rfl
    have c1 := hc 1 _ (by omega) rfl
    rw [e] at c1
    simp only [List.getElem_map]
    refine ⟨⟨g, 0, none⟩, X, x, c, rfl, by rw [add_block]; exact heap_lt hg, ?_, ?_, r1, r2, r3, r4⟩
    · have e1 : (Addr.add ⟨g, 0, none⟩ (k * 2)) = ⟨g, k * 2, none⟩ := by
        unfold Addr.add
        split
        · rename_i e0; rw [e0]
        · rw [Nat.zero_add]
      rw [e1]; exact c0
    · have e1 : (Addr.add ⟨g, 0, none⟩ (k * 2)) = ⟨g, k * 2, none⟩ := by
        unfold Addr.add
        split
        · rename_i e0; rw [e0]
        · rw [Nat.zero_add]
      rw [e1]; exact c1

/-- append of one posting. -/
theorem wpList_pushPost {ops : Array Oper} {rest : List Oper} {o : Oper} {a : Act} {W : World} {Q : Exit → Act → World → Prop} {B : Nat} {v : Value} {ps : List (Post × Value)} {p : Post} {X : Option Addr} {x cx : Nat} (hT : OwnPosts W B v ps) (hB : B ≤ W.heap.size)
    (hk : PlacesIn W v.ownBlock (p, .slice X x cx)) (hlen : ps.length ≤ 1000000000) (hgd : o.guard = none) (s y : Operand) (c : Nat)
    (ho : o.op = .call { callee := .builtin .append, args := #[s, y], argTypes := #[36, 36] }) (hs : a.eval s = v) (hx : a.eval y = .slice (some ⟨W.heap.size, 0, none⟩) 1 c)
    (h : ∀ v' w', OwnPosts w' B v' (ps ++ [(p, .slice X x cx)]) → W.grownBy w' v.ownBlock → wpList Tryz.prog ops Q rest (a.put o.dst v') w') :
    wpList Tryz.prog ops Q (o :: rest) a (W.alloc (.cells #[.int .i64 p.doc, .slice X x cx] 52)) := by
  obtain ⟨i0, hi, hz0, hz1, hz2⟩ := info_parts post_info
  refine wpList_append_own_at _ hgd s y 36 ho B 52 i0 _ 2 32 Tryz.underlying36 hi hz0 hz1 hz2 rfl (by omega) v ps.length (ps.flatMap postCells) hs (hT.row.alloc _) ⟨W.heap.size, 0, none⟩ 1 c (postCells (p, .slice X x cx)) hx rfl (World.news_of_block (MapKept.heap_alloc W _).1) ?_ (by simp only [maxLen]; omega) (by omega) (by simp; omega) ?_
  · intro u hu
    simp only [postCells, List.mem_cons, List.not_mem_nil, or_false] at hu
    rcases hu with rfl | rfl <;> rfl
  · intro v' w' h1 h2 _ h4
    have h5 := World.grownBy_alloc W (.cells #[.int .i64 p.doc, .slice X x cx] 52) v.ownBlock
    have hg : W.grownBy w' v.ownBlock := ⟨h2.os.trans h5.os, h2.tape.trans h5.tape, h2.output.trans h5.output, Nat.le_trans h5.size h2.size, fun k hk hne => (h2.block k (by simp; omega) hne).trans (h5.block k hk hne)⟩
    have hin : ∀ q, q ∈ ps ++ [(p, .slice X x cx)] → PlacesIn W v.ownBlock q := fun q hq => by
      rcases List.mem_append.1 hq with hq | hq
      · exact hT.each q hq
      · rw [List.mem_singleton.1 hq]; exact hk
    refine h v' w' ⟨by simpa using h1, fun q hq => ?_⟩ hg
    obtain ⟨X', x', c', e, r1, r2, r3, r4, r5⟩ := hin q hq
    rcases r4.2.2 with e0 | ⟨ad, e1, hl, hcell⟩
    · have e2 : q.1.places = [] := by simpa [iv] using e0
      exact ⟨X', x', c', e, r1, r2, r3, ⟨r4.1, r4.2.1, .inl e0⟩, fun hne => absurd e2 hne⟩
    · by_cases hne : q.1.places = []
      · exact ⟨X', x', c', e, r1, r2, r3, ⟨r4.1, r4.2.1, .inl (by rw [hne]; rfl)⟩, fun h => absurd hne h⟩
      · have h6 := r5 hne ad e1
        refine ⟨X', x', c', e, r1, r2, r3, r4.keepAt hg.size fun ad' e' => ?_, fun _ ad' e' => ?_⟩
        · rw [e1] at e'; have e2 := Option.some.inj e'; subst e2
          exact hg.block _ hl (fun e3 => h6 e3.symm)
        · rw [e1] at e'; have e2 := Option.some.inj e'; subst e2
          rcases h4 with h4 | h4
          · rw [h4]; exact h6
          · rw [h4]
            intro e3
            have e4 := Option.some.inj e3
            simp at e4
            omega
end Go.Proofs.YtfinpehbpcckaaaGreatDoor
end
section
namespace Go.Proofs.YtfinpehbpcckaaaGreatDoor
set_option linter.unusedVariables false

theorem Rd.num_less (r : Rd) (h : r.s ≠ []) : r.num.2.s.length < r.s.length := by
  unfold Rd.num
  cases e : rnum r.s with
  | none => exact List.length_pos_iff.2 h
  | some p => exact (rnum_bound (n := p.1) (t := p.2) e).2
theorem gPlaces_len {stp : Int → Nat → Option Int} : ∀ (k : Nat) (r : Rd) (a : Int) (acc pl : List Int) (r' : Rd), gPlaces stp k r a acc = some (pl, r') → pl.length + r'.s.length ≤ acc.length + r.s.length
  | 0, r, a, acc, pl, r', h => by
    injection h with h
    injection h with h1 h2
    subst h1; subst h2; exact Nat.le_refl _
  | k + 1, r, a, acc, pl, r', h => by
    unfold gPlaces at h
    split at h
    · injection h with h
      injection h with h1 h2
      subst h1; subst h2; exact Nat.le_refl _
    · rename_i hne
      split at h
      · cases h
      · have h1 := gPlaces_len k _ _ _ _ _ h
        have h2 := r.num_less hne
        rw [List.length_append] at h1
        simp at h1
        omega
theorem gPosts_len {stp : Int → Nat → Option Int} : ∀ (k : Nat) (r : Rd) (d : Int) (acc out : List Post) (r' : Rd), gPosts stp k r d acc = some (out, r') → out.length + r'.s.length ≤ acc.length + r.s.length ∧ ∀ p, p ∈ out → p ∈ acc ∨ p.places.length ≤ r.s.length
  | 0, r, d, acc, out, r', h => by
    injection h with h
    injection h with h1 h2
    subst h1; subst h2; exact ⟨Nat.le_refl _, fun p hp => .inl hp⟩
  | k + 1, r, d, acc, out, r', h => by
    unfold gPosts at h
    split at h
    · injection h with h
      injection h with h1 h2
      subst h1; subst h2; exact ⟨Nat.le_refl _, fun p hp => .inl hp⟩
    · rename_i hne
      split at h
      · cases h
      · split at h
        · cases h
        · rename_i x hx pl r3 hpl
          have h1 := gPosts_len k _ _ _ _ _ h
          have h2 := r.num_less hne
          have h3 := gPlaces_len _ _ _ _ _ _ hpl
          have h4 := r.num.2.num_bound.2
          rw [List.length_append] at h1
          simp at h1 h3
          refine ⟨by omega, fun p hp => ?_⟩
          rcases h1.2 p hp with h5 | h5
          · rcases h5 with h5 | h5
            · exact .inl h5
            · right; rw [h5]; simp only; omega
          · right; omega
end Go.Proofs.YtfinpehbpcckaaaGreatDoor
end
