/- Layer 34: terms and segments in memory; compare. A region that draws its order: operations that only read, then a forced tail. Layer 33: the program's merge of two lists of postings, told to a function value. append of a whole list onto a slice of the call's own; slices.Equal, slices.Clone. append of one integer, as one step of a region that draws. Layer 33: the program's copied, union, Or. append of one posting, as one step of a region that draws. -/
import Derived.StillTailTactics
import Derived.WalkSpells
import Derived.Deep.RegionLaw
import Derived.Test.YtfinpehbpcckaaaGreatDoorM08
import Derived.Test.YtfinpehbpcckaaaGreatDoorM04
import Derived.Test.YtfinpehbpcckaaaGreatDoorM01
import Derived.Test.YtfinpehbpcckaaaGreatDoorM07
import Derived.Test.YtfinpehbpcckaaaGreatDoorM03
section
namespace Go.Proofs.YtfinpehbpcckaaaGreatDoor
open Go.RowKit
set_option linter.unusedVariables false

/-- 'A' with 'n' places reads as the terms 'ts', in memory below B. -/
def Trms (w : World) (B : Nat) (A : Option Addr) (n : Nat) (ts : List Trm) : Prop :=
  n = ts.length ∧ ∀ k (hk : k < ts.length), ∃ ad, A = some ad ∧ (ad.add (k * 3)).block < B ∧ w.cell? (ad.add (k * 3)) = some (.int .i64 ts[k].field) ∧ w.cell? ⟨(ad.add (k * 3)).block, (ad.add (k * 3)).off + 1, none⟩ = some (.string (ba ts[k].word)) ∧ w.cell? ⟨(ad.add (k * 3)).block, (ad.add (k * 3)).off + 2, none⟩ = some (.string (ba ts[k].list)) ∧ (-9223372036854775808 ≤ ts[k].field ∧ ts[k].field ≤ 9223372036854775807)
section
variable {w w' : World} {B B' n : Nat} {A : Option Addr} {ts : List Trm}
theorem Trms.below (h : Trms w B A n ts) (hb : Below B w w') : Trms w' B A n ts := by
  refine ⟨h.1, fun k hk => ?_⟩
  obtain ⟨ad, e, h1, h2, h3, h4, h5⟩ := h.2 k hk
  exact ⟨ad, e, h1, (hb.cell h1).trans h2, (hb.cell (p := ⟨(ad.add (k * 3)).block, _, none⟩) h1).trans h3, (hb.cell (p := ⟨(ad.add (k * 3)).block, _, none⟩) h1).trans h4, h5⟩
theorem Trms.more (h : Trms w B A n ts) (hB : B ≤ B') : Trms w B' A n ts := by
  refine ⟨h.1, fun k hk => ?_⟩
  obtain ⟨ad, e, h1, h2⟩ := h.2 k hk
  exact ⟨ad, e, Nat.lt_of_lt_of_le h1 hB, h2⟩
theorem Trms.nil_ : Trms w B A 0 [] := ⟨rfl, fun k hk => by simp at hk⟩
theorem Trms.len (h : Trms w B A n ts) : ts.length = n := h.1.symm
theorem Trms.at_ (h : Trms w B A n ts) {k : Nat} (hk : k < n) : ∃ ad, A = some ad ∧ (ad.add (k * 3)).block < B ∧ w.cell? (ad.add (k * 3)) = some (.int .i64 (ti ts k).field) ∧ w.cell? ⟨(ad.add (k * 3)).block, (ad.add (k * 3)).off + 1, none⟩ = some (.string (ba (ti ts k).word)) ∧ w.cell? ⟨(ad.add (k * 3)).block, (ad.add (k * 3)).off + 2, none⟩ = some (.string (ba (ti ts k).list)) ∧ (-9223372036854775808 ≤ (ti ts k).field ∧ (ti ts k).field ≤ 9223372036854775807) := by
  have hk' : k < ts.length := by rw [h.len]; exact hk
  rw [ti_get hk']
  exact h.2 k hk'
end
/-- A segment in memory below B. -/
structure SegIn (w : World) (B : Nat) (A : Option Addr) (n c : Nat) (D : Option Addr) (m d : Nat) (s : Seg) : Prop where
  terms : Trms w B A n s.terms
  nc : n ≤ c
  cm : c ≤ maxLen
  docs : Ints w B D m s.docs
  md : m ≤ d
  dm : d ≤ maxLen
theorem SegIn.below {w w' : World} {B : Nat} {A D : Option Addr} {n c m d : Nat} {s : Seg} (h : SegIn w B A n c D m d s) (hb : Below B w w') : SegIn w' B A n c D m d s :=
  ⟨h.terms.below hb, h.nc, h.cm, h.docs.below hb, h.md, h.dm⟩
theorem SegIn.more {w : World} {B B' : Nat} {A D : Option Addr} {n c m d : Nat} {s : Seg} (h : SegIn w B A n c D m d s) (hB : B ≤ B') : SegIn w B' A n c D m d s :=
  ⟨h.terms.more hB, h.nc, h.cm, h.docs.more hB, h.md, h.dm⟩
def segV (A : Option Addr) (n c : Nat) (D : Option Addr) (m d : Nat) : Value := .agg #[.slice A n c, .slice D m d]
def trmV (t : Trm) : Value := .agg #[.int .i64 t.field, .string (ba t.word), .string (ba t.list)]
def orI (x y : Int) : Int := if x = 0 then y else x
theorem cor_or (x y : Int) (b c : Nat) (w : World) (hx : w.cell? ⟨b, 0, none⟩ = some (.int .i64 x)) (hy : w.cell? ⟨b, 1, none⟩ = some (.int .i64 y)) : Calls Tryz.prog 91 #[.slice (some ⟨b, 0, none⟩) 2 c] w fun e w' => e = .returned (.int .i64 (orI x y)) ∧ w' = w := cor_any x y b c w hx hy
theorem cmpT_or (a b : Trm) : orI (cmpI a.field b.field) (Lib.compareBytes a.word b.word) = cmpT a b := by
  unfold orI cmpI cmpT
  by_cases h1 : a.field < b.field
  · simp [h1]
  · by_cases h2 : b.field < a.field
    · simp [h1, h2]
    · simp [h1, h2]
set_option maxRecDepth 100000 in
set_option maxHeartbeats 4000000 in
theorem compare_any (f g : Int) (x y l k : List UInt8) (w : World) : Calls Tryz.prog 37 #[.agg #[.int .i64 f, .string (ba x), .string (ba l)], .agg #[.int .i64 g, .string (ba y), .string (ba k)]] w fun e w' => e = .returned (.int .i64 (cmpT ⟨f, x, l⟩ ⟨g, y, k⟩)) ∧ Below w.heap.size w w' := by
  have HT := Lib.hid (cmpT_or ⟨f, x, l⟩ ⟨g, y, k⟩)
  go_enter Tryz.func37, Tryz.ntmps37
  go_wp2
  go_region_law
    (first
      | (go_simp; go_at_call 92; refine (compare_int _ _ _).mono ?_; rintro e w' ⟨rfl, rfl⟩)
      | (go_simp; go_at_call 93; refine (strcmp_any _ _ _).mono ?_; rintro e w' ⟨rfl, rfl⟩)
      | (go_simp; go_at_call 91; refine (cor_or (cmpI f g) (Lib.compareBytes x y) _ _ _ (by go_simp) (by go_simp)).mono ?_; rintro e w' ⟨rfl, rfl⟩)
      | fail)
  all_goals
    go_wp2
    go_ret
    refine ⟨by rw [← HT.out]; rfl, ?_⟩
    repeat (first | exact Below.refl _ _ | (refine Below.alloc ?_ (by simp <;> omega) _) | refine Below.drew ?_)
end Go.Proofs.YtfinpehbpcckaaaGreatDoor
end
section
namespace Go.Proofs.YtfinpehbpcckaaaGreatDoor
open Go.RowKit
set_option linter.unusedVariables false
theorem wp_region_tail {P : Program} {id : Nat} {Q : Exit → Act → World → Prop} {a : Act} {w : World} {l : List Oper} (n : Nat) (hm : P.follows .mixedOrders = true) (hB : Region.lexTailB .any l.toArray n = true)
    (h : wpStill P l.toArray w.drew (fun a' => wpList P l.toArray Q (l.drop n) a' w.drew) (l.take n) a) : (Code.region id l.toArray true).wp P Q a w := wp_region_still_tail n hm hB h
end Go.Proofs.YtfinpehbpcckaaaGreatDoor
end
section
namespace Go.Proofs.YtfinpehbpcckaaaGreatDoor
open Go.RowKit
set_option linter.unusedVariables false

/-- The posting at an address of old memory. -/
def PostAt (w : World) (B : Nat) (ad : Addr) (p : Post) : Prop := ∃ X x c, ad.block < B ∧ w.cell? ad = some (.int .i64 p.doc) ∧ w.cell? ⟨ad.block, ad.off + 1, none⟩ = some (.slice X x c) ∧ x ≤ c ∧ c ≤ maxLen ∧ (-9223372036854775808 ≤ p.doc ∧ p.doc ≤ 9223372036854775807) ∧ Ints w B X x p.places
theorem PostAt.below {w w' : World} {B : Nat} {ad : Addr} {p : Post} (h : PostAt w B ad p) (hb : Below B w w') : PostAt w' B ad p := by
  obtain ⟨X, x, c, h1, h2, h3, h4, h5, h6, h7⟩ := h
  exact ⟨X, x, c, h1, (hb.cell h1).trans h2, (hb.cell (p := ⟨ad.block, _, none⟩) h1).trans h3, h4, h5, h6, h7.below hb⟩
theorem PostAt.more {w : World} {B B' : Nat} {ad : Addr} {p : Post} (h : PostAt w B ad p) (hB : B ≤ B') : PostAt w B' ad p := by
  obtain ⟨X, x, c, h1, h2, h3, h4, h5, h6, h7⟩ := h
  exact ⟨X, x, c, by omega, h2, h3, h4, h5, h6, h7.more hB⟩
/-- A pointer to a posting of old memory, or nil. -/
def PostPtr (B : Nat) (w : World) (v : Value) : Option Post → Prop
  | none => v = .pointer none
  | some p => ∃ ad, v = .pointer (some ad) ∧ PostAt w B ad p
theorem Posts.head {w : World} {B n : Nat} {A : Option Addr} {x : Post} {l : List Post} (h : Posts w B A n (x :: l)) : ∃ ad, A = some ad ∧ PostAt w B ad x := by
  obtain ⟨ad, X, m, c, e, h1, h2, h3, h4, h5, h6, h7⟩ := h.2 0 (by simp)
  have e0 : ad.add (0 * 2) = ad := by unfold Addr.add; rfl
  rw [e0] at h1 h2 h3
  exact ⟨ad, e, X, m, c, h1, h2, h3, h4, h5, h6, h7⟩
theorem Posts.cut1 {w : World} {B n c : Nat} {A : Option Addr} {x : Post} {l : List Post} (h : Posts w B A n (x :: l)) (hc : n ≤ c) : Posts w B (if c = 1 then A else A.map (·.add 2)) (n - 1) l := by
  refine ⟨by rw [h.1]; simp, fun k hk => ?_⟩
  have hn := h.1
  simp at hn
  obtain ⟨ad, X, m, cx, rfl, h1, h2, h3, h4, h5, h6, h7⟩ := h.2 (k + 1) (by simpa using hk)
  rw [if_neg (by omega)]
  have e0 : ad.add ((k + 1) * 2) = (ad.add 2).add (k * 2) := by rw [add_add']; congr 1; omega
  rw [e0] at h1 h2 h3
  exact ⟨ad.add 2, X, m, cx, rfl, h1, h2, h3, h4, h5, h6, h7⟩
theorem Posts.empty {w : World} {B : Nat} {A : Option Addr} {l : List Post} (hi : Posts w B A 0 l) : l = [] := List.eq_nil_of_length_eq_zero hi.1.symm
theorem Posts.cons {w : World} {B n : Nat} {A : Option Addr} {l : List Post} (hi : Posts w B A n l) (hn : 0 < n) : ∃ x r, l = x :: r := by
  cases l with
  | nil => have := hi.1; simp at this; omega
  | cons x r => exact ⟨x, r, rfl⟩
set_option maxRecDepth 100000 in
theorem cut_post {A : Option Addr} {n c : Nat} (hn : 1 ≤ n) (W : World) : (Instr.slice 36 (.slice A n c) (some (.int .i64 1)) none none).run Tryz.prog W =
    .ok (.slice (if c = 1 then A else A.map (·.add 2)) (n - 1) (c - 1)) W := by
  obtain ⟨i0, hi, hz0, hz1, hz2⟩ := info_parts post_info
  rw [run_slice_l (P := Tryz.prog) W 36 A n c Tryz.underlying36 .i64 (1 : Int) (by omega) (by omega)]
  have hs : (sizeOf (Tryz.prog.elem 36)).run Tryz.prog W = .ok 2 W := by
    rw [show Tryz.prog.elem 36 = 52 from rfl]
    simp [sizeOf, typeInfo, hi, hz1]
  rw [hs]
  simp [Result.andThen, sliced]

theorem docsc_lt (a b : Int) (s t : Value) (w : World) (h : a < b) : Calls Tryz.prog 113 #[.agg #[.int .i64 a, s], .agg #[.int .i64 b, t]] w fun e w' => e = .returned (.int .i64 (-1)) ∧ Below w.heap.size w w' := by
  have H := Lib.hid h
  clear h
  go_enter Tryz.func113, Tryz.ntmps113
  go_wp2_with fail
  refine (compare_lt a b _ H.out).mono ?_
  rintro e w' ⟨rfl, rfl⟩
  go_wp2
  go_ret
  exact ⟨rfl, ((Below.refl _ _).alloc (Nat.le_refl _) _).alloc (by simp) _⟩
theorem docsc_gt (a b : Int) (s t : Value) (w : World) (h : b < a) : Calls Tryz.prog 113 #[.agg #[.int .i64 a, s], .agg #[.int .i64 b, t]] w fun e w' => e = .returned (.int .i64 1) ∧ Below w.heap.size w w' := by
  have H := Lib.hid h
  clear h
  go_enter Tryz.func113, Tryz.ntmps113
  go_wp2_with fail
  refine (compare_gt a b _ H.out).mono ?_
  rintro e w' ⟨rfl, rfl⟩
  go_wp2
  go_ret
  exact ⟨rfl, ((Below.refl _ _).alloc (Nat.le_refl _) _).alloc (by simp) _⟩
theorem docsc_eq (a b : Int) (s t : Value) (w : World) (h : a = b) : Calls Tryz.prog 113 #[.agg #[.int .i64 a, s], .agg #[.int .i64 b, t]] w fun e w' => e = .returned (.int .i64 0) ∧ Below w.heap.size w w' := by
  have H := Lib.hid h
  clear h
  go_enter Tryz.func113, Tryz.ntmps113
  go_wp2_with fail
  refine (compare_eq a b _ H.out).mono ?_
  rintro e w' ⟨rfl, rfl⟩
  go_wp2
  go_ret
  exact ⟨rfl, ((Below.refl _ _).alloc (Nat.le_refl _) _).alloc (by simp) _⟩

def BothPosts (E : List (Option Post × Option Post)) (I : List (Option Post × Option Post) → World → Prop) (B : Nat) (w0 : World) (va vb : Value) (wr : World) : Prop := ∃ (A : Option Addr) (n c : Nat) (A2 : Option Addr) (m d : Nat), va = .slice A n c ∧ vb = .slice A2 m d ∧ n ≤ c ∧ c ≤ 9223372036854775807 ∧ m ≤ d ∧ d ≤ 9223372036854775807 ∧ Hid (∃ ra rb done, Posts w0 B A n ra ∧ Posts w0 B A2 m rb ∧ done ++ evs Post.doc ra rb = E ∧ I done wr)
set_option maxRecDepth 100000 in
set_option maxHeartbeats 4000000 in
theorem both_posts {E : List (Option Post × Option Post)} {I : List (Option Post × Option Post) → World → Prop} {fk : FuncId} {ck : Array Value} {B : Nat} {w0 : World} (hs : Sees (PostPtr B) E I fk ck B w0)
    (A A2 : Option Addr) (n m c d : Nat) (a b : List Post) (w : World) (ha : Posts w0 B A n a) (hb : Posts w0 B A2 m b) (hn : n ≤ c) (hc : c ≤ maxLen) (hm : m ≤ d) (hd : d ≤ maxLen) (hE : evs Post.doc a b = E) (hI : I [] w) :
    Calls Tryz.prog 112 #[.slice A n c, .slice A2 m d, .func (.func 113) #[] #[], .func (.func fk) #[] ck] w fun e w' => e = .returned (.tuple #[]) ∧ I E w' := by
  have HS := Lib.hid hs
  have H0 : Hid (∃ ra rb done, Posts w0 B A n ra ∧ Posts w0 B A2 m rb ∧ done ++ evs Post.doc ra rb = E ∧ I done w) := ⟨a, b, [], ha, hb, hE, hI⟩
  unfold maxLen at hc hd
  clear hs ha hb hE hI
  go_enter Tryz.func112, Tryz.ntmps112
  go_wp2
  go_loopw [0, 1] (BothPosts E I B w0) (fun va vb _ => slen va + slen vb)
  case atStart => exact ⟨A, n, c, A2, m, d, rfl, rfl, hn, by omega, hm, by omega, H0.out⟩
  case round =>
    clear H0 hn hc hm hd
    obtain ⟨A, n, c, A2, m, d, rfl, rfl, hn, hc, hm, hd, H⟩ := hrel
    obtain ⟨ra, rb, done, ha, hb, hE, hI⟩ := H.out
    have HBEL := Lib.hid (HS.out.below _ _ hI)
    have HI := Lib.hid hI
    have HBW := Lib.hid (Nat.le_trans HS.out.base HBEL.out.size)
    clear H hI
    by_cases hn0 : n = 0
    · subst hn0
      obtain rfl := ha.empty
      have HA := Lib.hid ha
      by_cases hm0 : m = 0
      · subst hm0
        obtain rfl := hb.empty
        rw [evs_nil, List.append_nil] at hE
        subst hE
        clear ha hb
        go_wp2
        go_end0
        exact ⟨rfl, HI.out⟩
      · obtain ⟨y, tt, rfl⟩ := hb.cons (by omega)
        rw [evs_right] at hE
        have HB := Lib.hid hb
        obtain ⟨bd, rfl, hpb⟩ := HB.out.head
        have HY := Lib.hid (fun w' (hb : Below B wr w') => (show PostPtr B w' (.pointer (some bd)) (some y) from ⟨bd, rfl, (hpb.below HBEL.out).below hb⟩))
        obtain ⟨Y1, y1, d1, hbb, hcb, hcb1, -, -, -, -⟩ := hpb.below HBEL.out
        clear hpb
        have hm1 : (0 : Int) < (m : Int) := by omega
        have hm3 : 0 < m := by omega
        have hm2 : ((m : Int) == 0) = false := by simpa using hm0
        clear ha hb hm0
        have HE := Lib.hid (show (done ++ [(none, some y)]) ++ evs Post.doc ([]) (tt) = E by rw [← hE]; simp)
        have HC := Lib.hid (fun w' (hb : Below wr.heap.size wr w') => HS.out.keep done (none, some y) (evs Post.doc ([]) (tt)) w' (.pointer none) (.pointer (some bd)) hE (HS.out.stays _ _ _ HI.out hb) rfl (HY.out _ (hb.mono HBW.out)))
        have HA1 := HA
        have HB1 := Lib.hid (HB.out.cut1 hm)
        obtain ⟨B5, hB5⟩ : ∃ B5, (if d = 1 then some bd else (some bd).map (·.add 2)) = B5 := ⟨_, rfl⟩
        have hsb := fun W => cut_post (A := some bd) (c := d) (show 1 ≤ m by omega) W
        simp only [hB5] at hsb
        rw [hB5] at HB1
        clear hE hB5
        go_wp2
        go_quiet (fail)
        go_wp2_with (refine wpList_callv2 (fk := fk) (ck := ck) (v := .pointer none) (u := .pointer (some bd)) rfl (.tmp 47) (.tmp 48) (.tmp 49) 108 108 rfl rfl rfl rfl HS.out.call (HC.out _ (by repeat (first | exact Below.refl _ _ | refine Below.drewN ?_ _ | exact HB5.out))) ?_; rintro r w2 hI2; have HI2 := Lib.hid hI2; clear hI2)
        go_simp
        go_roundw
        case rel => exact ⟨A, 0, c, B5, m - 1, d - 1, rfl, rfl, by omega, by omega, by omega, by omega, [], tt, done ++ [(none, some y)], HA1.out, HB1.out, HE.out, HI2.out⟩
        case measure => simp [slen] <;> omega
    · obtain ⟨x, rr, rfl⟩ := ha.cons (by omega)
      have HA := Lib.hid ha
      obtain ⟨ad, rfl, hpa⟩ := HA.out.head
      have HX := Lib.hid (fun w' (hb : Below B wr w') => (show PostPtr B w' (.pointer (some ad)) (some x) from ⟨ad, rfl, (hpa.below HBEL.out).below hb⟩))
      obtain ⟨X1, x1, c1, hab, hca, hca1, -, -, -, -⟩ := hpa.below HBEL.out
      clear hpa
      have hn1 : (0 : Int) < (n : Int) := by omega
      have hn3 : 0 < n := by omega
      have hn2 : ((n : Int) == 0) = false := by simpa using hn0
      by_cases hm0 : m = 0
      · subst hm0
        obtain rfl := hb.empty
        have HB := Lib.hid hb
        rw [evs_left] at hE
        clear ha hb hn0
        have HE := Lib.hid (show (done ++ [(some x, none)]) ++ evs Post.doc (rr) ([]) = E by rw [← hE]; simp)
        have HC := Lib.hid (fun w' (hb : Below wr.heap.size wr w') => HS.out.keep done (some x, none) (evs Post.doc (rr) ([])) w' (.pointer (some ad)) (.pointer none) hE (HS.out.stays _ _ _ HI.out hb) (HX.out _ (hb.mono HBW.out)) rfl)
        have HA1 := Lib.hid (HA.out.cut1 hn)
        obtain ⟨A5, hA5⟩ : ∃ A5, (if c = 1 then some ad else (some ad).map (·.add 2)) = A5 := ⟨_, rfl⟩
        have hsa := fun W => cut_post (A := some ad) (c := c) (show 1 ≤ n by omega) W
        simp only [hA5] at hsa
        rw [hA5] at HA1
        have HB1 := HB
        clear hE hA5
        go_wp2
        go_quiet (fail)
        go_wp2_with (refine wpList_callv2 (fk := fk) (ck := ck) (v := .pointer (some ad)) (u := .pointer none) rfl (.tmp 47) (.tmp 48) (.tmp 49) 108 108 rfl rfl rfl rfl HS.out.call (HC.out _ (by repeat (first | exact Below.refl _ _ | refine Below.drewN ?_ _ | exact HB5.out))) ?_; rintro r w2 hI2; have HI2 := Lib.hid hI2; clear hI2)
        go_simp
        go_roundw
        case rel => exact ⟨A5, n - 1, c - 1, A2, 0, d, rfl, rfl, by omega, by omega, by omega, by omega, rr, [], done ++ [(some x, none)], HA1.out, HB1.out, HE.out, HI2.out⟩
        case measure => simp [slen] <;> omega
      · obtain ⟨y, tt, rfl⟩ := hb.cons (by omega)
        have HB := Lib.hid hb
        obtain ⟨bd, rfl, hpb⟩ := HB.out.head
        have HY := Lib.hid (fun w' (hb : Below B wr w') => (show PostPtr B w' (.pointer (some bd)) (some y) from ⟨bd, rfl, (hpb.below HBEL.out).below hb⟩))
        obtain ⟨Y1, y1, d1, hbb, hcb, hcb1, -, -, -, -⟩ := hpb.below HBEL.out
        clear hpb
        have hm1 : (0 : Int) < (m : Int) := by omega
        have hm3 : 0 < m := by omega
        have hm2 : ((m : Int) == 0) = false := by simpa using hm0
        clear ha hb hn0 hm0
        rcases Int.lt_trichotomy (x.doc) (y.doc) with hlt | hlt | hlt
        · rw [evs_lt (by exact hlt)] at hE
          have HLT := Lib.hid hlt
          clear hlt
          have HE := Lib.hid (show (done ++ [(some x, none)]) ++ evs Post.doc (rr) (y :: tt) = E by rw [← hE]; simp)
          have HC := Lib.hid (fun w' (hb : Below wr.heap.size wr w') => HS.out.keep done (some x, none) (evs Post.doc (rr) (y :: tt)) w' (.pointer (some ad)) (.pointer none) hE (HS.out.stays _ _ _ HI.out hb) (HX.out _ (hb.mono HBW.out)) rfl)
          have HA1 := Lib.hid (HA.out.cut1 hn)
          obtain ⟨A5, hA5⟩ : ∃ A5, (if c = 1 then some ad else (some ad).map (·.add 2)) = A5 := ⟨_, rfl⟩
          have hsa := fun W => cut_post (A := some ad) (c := c) (show 1 ≤ n by omega) W
          simp only [hA5] at hsa
          rw [hA5] at HA1
          have HB1 := HB
          clear hE hA5
          go_wp2
          (refine wp_region_tail 7 (by kernel_rfl) (by kernel_rfl) ?_; simp only [List.take_succ_cons, List.take_zero, List.drop_succ_cons, List.drop_zero]; repeat still_step)
          refine wpStill_nil ?_
          go_wp2_with fail
          refine (docsc_lt x.doc y.doc _ _ _ HLT.out).mono ?_
          rintro e w5 ⟨rfl, hb5⟩
          have HB5 := Lib.hid (show Below wr.heap.size wr w5 from (Below.refl wr.heap.size wr).drew.trans hb5)
          clear hb5
          go_wp2
          go_quiet (fail)
          go_wp2_with (refine wpList_callv2 (fk := fk) (ck := ck) (v := .pointer (some ad)) (u := .pointer none) rfl (.tmp 47) (.tmp 48) (.tmp 49) 108 108 rfl rfl rfl rfl HS.out.call (HC.out _ (by repeat (first | exact Below.refl _ _ | refine Below.drewN ?_ _ | exact HB5.out))) ?_; rintro r w2 hI2; have HI2 := Lib.hid hI2; clear hI2)
          go_simp
          go_roundw
          case rel => exact ⟨A5, n - 1, c - 1, some bd, m, d, rfl, rfl, by omega, by omega, by omega, by omega, rr, y :: tt, done ++ [(some x, none)], HA1.out, HB1.out, HE.out, HI2.out⟩
          case measure => simp [slen] <;> omega
        · rw [evs_eq (by exact hlt)] at hE
          have HLT := Lib.hid hlt
          clear hlt
          have HE := Lib.hid (show (done ++ [(some x, some y)]) ++ evs Post.doc (rr) (tt) = E by rw [← hE]; simp)
          have HC := Lib.hid (fun w' (hb : Below wr.heap.size wr w') => HS.out.keep done (some x, some y) (evs Post.doc (rr) (tt)) w' (.pointer (some ad)) (.pointer (some bd)) hE (HS.out.stays _ _ _ HI.out hb) (HX.out _ (hb.mono HBW.out)) (HY.out _ (hb.mono HBW.out)))
          have HA1 := Lib.hid (HA.out.cut1 hn)
          obtain ⟨A5, hA5⟩ : ∃ A5, (if c = 1 then some ad else (some ad).map (·.add 2)) = A5 := ⟨_, rfl⟩
          have hsa := fun W => cut_post (A := some ad) (c := c) (show 1 ≤ n by omega) W
          simp only [hA5] at hsa
          rw [hA5] at HA1
          have HB1 := Lib.hid (HB.out.cut1 hm)
          obtain ⟨B5, hB5⟩ : ∃ B5, (if d = 1 then some bd else (some bd).map (·.add 2)) = B5 := ⟨_, rfl⟩
          have hsb := fun W => cut_post (A := some bd) (c := d) (show 1 ≤ m by omega) W
          simp only [hB5] at hsb
          rw [hB5] at HB1
          clear hE hA5 hB5
          go_wp2
          (refine wp_region_tail 7 (by kernel_rfl) (by kernel_rfl) ?_; simp only [List.take_succ_cons, List.take_zero, List.drop_succ_cons, List.drop_zero]; repeat still_step)
          refine wpStill_nil ?_
          go_wp2_with fail
          refine (docsc_eq x.doc y.doc _ _ _ HLT.out).mono ?_
          rintro e w5 ⟨rfl, hb5⟩
          have HB5 := Lib.hid (show Below wr.heap.size wr w5 from (Below.refl wr.heap.size wr).drew.trans hb5)
          clear hb5
          go_wp2
          go_quiet (fail)
          go_wp2
          go_quiet (fail)
          go_wp2_with (refine wpList_callv2 (fk := fk) (ck := ck) (v := .pointer (some ad)) (u := .pointer (some bd)) rfl (.tmp 47) (.tmp 48) (.tmp 49) 108 108 rfl rfl rfl rfl HS.out.call (HC.out _ (by repeat (first | exact Below.refl _ _ | refine Below.drewN ?_ _ | exact HB5.out))) ?_; rintro r w2 hI2; have HI2 := Lib.hid hI2; clear hI2)
          go_simp
          go_roundw
          case rel => exact ⟨A5, n - 1, c - 1, B5, m - 1, d - 1, rfl, rfl, by omega, by omega, by omega, by omega, rr, tt, done ++ [(some x, some y)], HA1.out, HB1.out, HE.out, HI2.out⟩
          case measure => simp [slen] <;> omega
        · rw [evs_gt (by exact hlt)] at hE
          have HLT := Lib.hid hlt
          clear hlt
          have HE := Lib.hid (show (done ++ [(none, some y)]) ++ evs Post.doc (x :: rr) (tt) = E by rw [← hE]; simp)
          have HC := Lib.hid (fun w' (hb : Below wr.heap.size wr w') => HS.out.keep done (none, some y) (evs Post.doc (x :: rr) (tt)) w' (.pointer none) (.pointer (some bd)) hE (HS.out.stays _ _ _ HI.out hb) rfl (HY.out _ (hb.mono HBW.out)))
          have HA1 := HA
          have HB1 := Lib.hid (HB.out.cut1 hm)
          obtain ⟨B5, hB5⟩ : ∃ B5, (if d = 1 then some bd else (some bd).map (·.add 2)) = B5 := ⟨_, rfl⟩
          have hsb := fun W => cut_post (A := some bd) (c := d) (show 1 ≤ m by omega) W
          simp only [hB5] at hsb
          rw [hB5] at HB1
          clear hE hB5
          go_wp2
          (refine wp_region_tail 7 (by kernel_rfl) (by kernel_rfl) ?_; simp only [List.take_succ_cons, List.take_zero, List.drop_succ_cons, List.drop_zero]; repeat still_step)
          refine wpStill_nil ?_
          go_wp2_with fail
          refine (docsc_gt x.doc y.doc _ _ _ HLT.out).mono ?_
          rintro e w5 ⟨rfl, hb5⟩
          have HB5 := Lib.hid (show Below wr.heap.size wr w5 from (Below.refl wr.heap.size wr).drew.trans hb5)
          clear hb5
          go_wp2
          go_quiet (fail)
          go_wp2_with (refine wpList_callv2 (fk := fk) (ck := ck) (v := .pointer none) (u := .pointer (some bd)) rfl (.tmp 47) (.tmp 48) (.tmp 49) 108 108 rfl rfl rfl rfl HS.out.call (HC.out _ (by repeat (first | exact Below.refl _ _ | refine Below.drewN ?_ _ | exact HB5.out))) ?_; rintro r w2 hI2; have HI2 := Lib.hid hI2; clear hI2)
          go_simp
          go_roundw
          case rel => exact ⟨some ad, n, c, B5, m - 1, d - 1, rfl, rfl, by omega, by omega, by omega, by omega, x :: rr, tt, done ++ [(none, some y)], HA1.out, HB1.out, HE.out, HI2.out⟩
          case measure => simp [slen] <;> omega
end Go.Proofs.YtfinpehbpcckaaaGreatDoor
end
section
namespace Go.Proofs.YtfinpehbpcckaaaGreatDoor
open Go.RowKit
set_option linter.unusedVariables false

theorem iv_len (l : List Int) : (iv l).length = l.length := by simp [iv]
theorem take_succ_eq {a b : List Int} {k : Nat} (h : a.take k = b.take k) (ha : k < a.length) (hb : k < b.length) (he : gi a k = gi b k) : a.take (k + 1) = b.take (k + 1) := by
  rw [List.take_succ_eq_append_getElem ha, List.take_succ_eq_append_getElem hb, h, ← gi_get ha, ← gi_get hb, he]
theorem I64s.append {l m : List Int} (h : I64s l) (k : I64s m) : I64s (l ++ m) := by
  intro x hx
  rcases List.mem_append.1 hx with hx | hx
  · exact h x hx
  · exact k x hx
theorem iv_append (l m : List Int) : iv (l ++ m) = iv l ++ iv m := by simp [iv]

set_option maxRecDepth 100000 in
theorem run_append_none (w : World) (B : Nat) (t ty : TypeId) (ht : Tryz.prog.underlying t = some (.slice 3)) (v : Value) (acc : List Int) (hown : OwnInts w B v acc) (c : Nat) : (Builtin.append_ #[t, t] ty #[v, .slice none 0 c]).run Tryz.prog w = .ok v w := by
  obtain ⟨i0, hi, hz0, hz1, hz2⟩ := info_parts int_info
  rcases hown.1.2 with ⟨rfl, _⟩ | ⟨g, cap, cur, rfl, _, _, hnc, _⟩
  · simp [Builtin.append_, run_underlying ht, sizeOf, typeInfo, hi, Builtin.lenOf, Builtin.firstCells]
  · simp [Builtin.append_, run_underlying ht, sizeOf, typeInfo, hi, Builtin.lenOf, Builtin.firstCells, hnc, storeCells]

set_option maxRecDepth 100000 in
theorem run_join (w : World) (B : Nat) (t ty : TypeId) (ht : Tryz.prog.underlying t = some (.slice 3)) (v : Value) (acc : List Int) (hown : OwnInts w B v acc) (hB : B ≤ w.heap.size)
    (D : Nat) (A : Option Addr) (m c : Nat) (l : List Int) (hr : Ints w D A m l) (hlen : (acc.length + m) * 8 ≤ 140737488355328) :
    ∃ v' w', (Builtin.append_ #[t, t] ty #[v, .slice A m c]).run Tryz.prog w = .ok v' w' ∧ OwnInts w' B v' (acc ++ l) ∧ w.grownBy w' v.ownBlock ∧ (v'.ownBlock = v.ownBlock ∨ ∃ k, v'.ownBlock = some k ∧ w.heap.size ≤ k) := by
  obtain ⟨i0, hi, hz0, hz1, hz2⟩ := info_parts int_info
  have hml := hr.len
  rcases A with _ | ad
  · have hl : l = [] := by
      rcases hr.2.2 with h | ⟨_, h, _⟩
      · simpa [iv] using h
      · cases h
    subst hl
    obtain rfl : m = 0 := hml.symm
    exact ⟨v, w, run_append_none w B t ty ht v acc hown c, by simpa using hown, World.grownBy.refl w _, .inl rfl⟩
  · have hcells : ∀ j u, (iv l)[j]? = some u → w.cell? (ad.add j) = some u := by
      intro j u hu
      rcases hr.2.2 with h | ⟨ad', h, _, hc⟩
      · rw [h] at hu; cases hu
      · injection h with h; subst h; exact hc j u hu
    have h1 : ∀ u ∈ iv l, u.oneCell' = true := by
      intro u hu
      simp only [iv, List.mem_map] at hu
      obtain ⟨x, _, rfl⟩ := hu
      rfl
    obtain ⟨v', w', hrun, h2, h3, _, h5⟩ := run_append_own_at (P := Tryz.prog) w B t ty 3 i0 _ 1 8 ht hi hz0 hz1 hz2 rfl (by omega) v acc.length (iv acc) hown.1 ad m c (iv l) (by rw [iv_len, hml]; omega) hcells h1 (by simp only [maxLen]; omega) hlen hB
    refine ⟨v', w', hrun, ⟨?_, hown.2.append hr.2.1⟩, h3, ?_⟩
    · rw [iv_append, List.length_append, hml]; exact h2
    · rcases h5 with h | h
      · exact .inl h
      · exact .inr ⟨_, h, Nat.le_refl _⟩

theorem wp_join {o : Oper} {a : Act} {K : Act → World → Prop} {w : World} {Q : Exit → Act → World → Prop} {B : Nat} {v : Value} {acc : List Int} (hown : OwnInts w B v acc) (hB : B ≤ w.heap.size)
    {D : Nat} {A : Option Addr} {m : Nat} {l : List Int} (hr : Ints w D A m l) (hlen : (acc.length + m) * 8 ≤ 140737488355328) (s x : Operand) (t : TypeId) (c : Nat)
    (ho : o.op = .call { callee := .builtin .append, args := #[s, x], argTypes := #[t, t] }) (ht : Tryz.prog.underlying t = some (.slice 3)) (hs : a.eval s = v) (hx : a.eval x = .slice A m c)
    (h : ∀ v' w', OwnInts w' B v' (acc ++ l) → w.grownBy w' v.ownBlock → (v'.ownBlock = v.ownBlock ∨ ∃ k, v'.ownBlock = some k ∧ w.heap.size ≤ k) → K (a.put o.dst v') w') : o.wp Tryz.prog a w K Q := by
  obtain ⟨v', w', hrun, h2, h3, h4⟩ := run_join w B t o.type ht v acc hown hB D A m c l hr hlen
  unfold Oper.wp execOp
  simp only [ho, resolve, invoke, builtin, Sem.run_bind, Sem.run_pure, Result.andThen_ok, List.map_toArray, List.map_cons, List.map_nil, hs, hx, hrun]
  exact h v' w' h2 h3 h4

theorem wpList_join {ops : Array Oper} {rest : List Oper} {o : Oper} {a : Act} {w : World} {Q : Exit → Act → World → Prop} {B : Nat} {v : Value} {acc : List Int} (hown : OwnInts w B v acc) (hB : B ≤ w.heap.size)
    {D : Nat} {A : Option Addr} {m : Nat} {l : List Int} (hr : Ints w D A m l) (hlen : (acc.length + m) * 8 ≤ 140737488355328) (hgd : o.guard = none) (s x : Operand) (t : TypeId) (c : Nat)
    (ho : o.op = .call { callee := .builtin .append, args := #[s, x], argTypes := #[t, t] }) (ht : Tryz.prog.underlying t = some (.slice 3)) (hs : a.eval s = v) (hx : a.eval x = .slice A m c)
    (h : ∀ v' w', OwnInts w' B v' (acc ++ l) → w.grownBy w' v.ownBlock → (v'.ownBlock = v.ownBlock ∨ ∃ k, v'.ownBlock = some k ∧ w.heap.size ≤ k) → wpList Tryz.prog ops Q rest (a.put o.dst v') w') : wpList Tryz.prog ops Q (o :: rest) a w :=
  wpList_plain hgd fun _ hK => wp_join hown hB hr hlen s x t c ho ht hs hx fun v' w' h2 h3 h4 => hK _ _ (h v' w' h2 h3 h4)

/-- An empty slice that the call has just made. -/
theorem OwnInts.made (w : World) (B : Nat) (hB : B ≤ w.heap.size) : OwnInts (w.alloc (.cells #[] 3)) B (.slice (some ⟨w.heap.size, 0, none⟩) 0 0) [] :=
  ⟨World.ownsRow_made w #[] 0 hB (Nat.zero_le _) rfl, fun x hx => by cases hx⟩

set_option maxHeartbeats 400000 in
theorem clone_any (A : Option Addr) (n c : Nat) (l : List Int) (w : World) (ha : Ints w w.heap.size A n l) (hn : n * 8 ≤ 140737488355328) :
    Calls Tryz.prog 114 #[.slice A n c] w fun e w' => ∃ v, e = .returned v ∧ OwnInts w' w.heap.size v l ∧ Below w.heap.size w w' := by
  rcases A with _ | ad
  · have heq := fun W => Lib.run_eql_slice_nil (P := Tryz.prog) W 26 3 none n c 0 0 Tryz.underlying26
    have hl : l = [] := by
      rcases ha.2.2 with h | ⟨_, h, _⟩
      · simpa [iv] using h
      · cases h
    subst hl
    obtain rfl : n = 0 := ha.len.symm
    go_enter Tryz.func114, Tryz.ntmps114
    go_wp2
    go_ret
    exact ⟨_, rfl, OwnInts.nil_ _ _, Below.refl _ _⟩
  · have heq := fun W => Lib.run_eql_slice_nil (P := Tryz.prog) W 26 3 (some ad) n c 0 0 Tryz.underlying26
    have hown := OwnInts.made w w.heap.size (Nat.le_refl _)
    have ha2 : Ints (w.alloc (.cells #[] 3)) w.heap.size (some ad) n l := ha.below ((Below.refl _ _).alloc (Nat.le_refl _) _)
    have hB : w.heap.size ≤ (w.alloc (.cells #[] 3)).heap.size := by simp
    have hn2 : (([] : List Int).length + n) * 8 ≤ 140737488355328 := by simpa using hn
    go_enter Tryz.func114, Tryz.ntmps114
    go_wp2_with (at_builtin; go_must (refine wpList_join hown hB ha2 hn2 rfl (.tmp 5) (.tmp 6) 26 c rfl Tryz.underlying26 rfl rfl ?_); intro v' w1 hown1 hg1 hat1)
    go_ret
    exact ⟨_, rfl, hown1, ((Below.refl _ _).alloc (Nat.le_refl _) _).grown hg1 (by simp) (fun k hk => by
      have e : w.heap.size = k := by simpa [Value.ownBlock] using hk
      omega)⟩

theorem equal_no (A B : Option Addr) (n m c d : Nat) (w : World) (hne : ((n : Int) != (m : Int)) = true) :
    Calls Tryz.prog 66 #[.slice A n c, .slice B m d] w fun e w' => e = .returned (.bool false) ∧ w = w' := by
  go_enter Tryz.func66, Tryz.ntmps66
  go_wp2
  go_ret
  exact ⟨rfl, rfl⟩

set_option maxHeartbeats 400000 in
theorem equal_eq (A B : Option Addr) (n c d : Nat) (xs ys : List Int) (w : World) (ha : Ints w w.heap.size A n xs) (hb : Ints w w.heap.size B n ys) (hn : n ≤ maxLen) :
    Calls Tryz.prog 66 #[.slice A n c, .slice B n d] w fun e w' => e = .returned (.bool (decide (xs = ys))) ∧ ∃ k, w' = w.drewN k := by
  unfold maxLen at hn
  go_enter Tryz.func66, Tryz.ntmps66
  go_wp2
  go_loopw [5, 13] (fun _ i wr => ∃ k : Nat, k ≤ n ∧ i = .int .i64 k ∧ xs.take k = ys.take k ∧ ∃ d, wr = w.drewN d) (fun _ i _ => n - (intOf i).toNat)
  case atStart => exact ⟨0, Nat.zero_le _, rfl, rfl, 0, rfl⟩
  case round =>
    obtain ⟨k, hk, rfl, ht, dd, rfl⟩ := hrel
    by_cases hlt : k < n
    · obtain ⟨ad, rfl, _, hca⟩ := ha.at_ hlt
      obtain ⟨bd, rfl, _, hcb⟩ := hb.at_ hlt
      have hlx := ha.len
      have hly := hb.len
      have HT := Lib.hid (And.intro ht (And.intro hlx hly)); clear ht hlx hly
      by_cases he : gi xs k = gi ys k
      · have HE := Lib.hid he
        have hne : (gi xs k != gi ys k) = false := by simpa using he
        clear he
        go_wp2
        go_quiet (fail)
        go_wp2
        go_roundw
        case rel => exact ⟨k + 1, by omega, by go_num, take_succ_eq HT.out.1 (HT.out.2.1 ▸ hlt) (HT.out.2.2 ▸ hlt) HE.out, dd + nq, (by first | rfl | exact World.drewN_drewN w dd nq)⟩
        case measure => simp [intOf]; omega
      · have HE := Lib.hid he
        have hne : (gi xs k != gi ys k) = true := by simpa using he
        clear he
        go_wp2
        go_quiet (fail)
        go_wp2
        go_ret
        exact ⟨ret_bool (by simp; intro e; subst e; exact HE.out rfl), dd + nq, (by first | rfl | exact World.drewN_drewN w dd nq)⟩
    · have hlx := ha.len
      have hly := hb.len
      have hxy : xs = ys := by
        rw [List.take_of_length_le (by omega), List.take_of_length_le (by omega)] at ht
        exact ht
      have HE := Lib.hid hxy
      clear ht hlx hly hxy
      go_wp2
      go_ret
      exact ⟨ret_bool (by simp [HE.out]), _, rfl⟩

theorem equal_any (A B : Option Addr) (n m c d : Nat) (xs ys : List Int) (w : World) (ha : Ints w w.heap.size A n xs) (hb : Ints w w.heap.size B m ys) (hn : n ≤ maxLen) :
    Calls Tryz.prog 66 #[.slice A n c, .slice B m d] w fun e w' => e = .returned (.bool (decide (xs = ys))) ∧ ∃ k, w' = w.drewN k := by
  by_cases h : n = m
  · subst h
    exact equal_eq A B n c d xs ys w ha hb hn
  · refine (equal_no A B n m c d w (by simp; omega)).mono ?_
    rintro e w' ⟨rfl, rfl⟩
    refine ⟨ret_bool ?_, 0, rfl⟩
    have h1 := ha.len
    have h2 := hb.len
    symm
    simp
    rintro rfl
    omega
end Go.Proofs.YtfinpehbpcckaaaGreatDoor
end
section
namespace Go.Proofs.YtfinpehbpcckaaaGreatDoor
open Go.RowKit
set_option linter.unusedVariables false

theorem step_push {ops : Array Oper} {o : Oper} {a : Act} {W : World} {K : Act → World → Prop} {Q : Exit → Act → World → Prop} {E : Prop} {B : Nat} {y : Int} {v : Value} {acc : List Int} (hown : OwnInts W B v acc) (hB : B ≤ W.heap.size)
    (hy : -9223372036854775808 ≤ y ∧ y ≤ 9223372036854775807) (hlen : acc.length < 1099511627776) (hgd : o.guard = none) (s x : Operand) (t : TypeId) (c : Nat)
    (ho : o.op = .call { callee := .builtin .append, args := #[s, x], argTypes := #[t, t] }) (ht : Tryz.prog.underlying t = some (.slice 3))
    (hs : a.eval s = v) (hx : a.eval x = .slice (some ⟨W.heap.size, 0, none⟩) 1 c)
    (h : ∀ v' w', OwnInts w' B v' (acc ++ [y]) → W.grownBy w' v.ownBlock → (v'.ownBlock = v.ownBlock ∨ ∃ k, v'.ownBlock = some k ∧ W.heap.size ≤ k) → K (a.put o.dst v') w') :
    if Region.wanted o (yielded ops a.tmps) = true then Oper.wp Tryz.prog o a (W.alloc (.cells #[.int .i64 y] 3)) K Q else E := by
  have hw : Region.wanted o (yielded ops a.tmps) = true := by simp [Region.wanted, hgd]
  rw [if_pos hw]
  have hr : Ints (W.alloc (.cells #[.int .i64 y] 3)) (W.heap.size + 1) (some ⟨W.heap.size, 0, none⟩) 1 [y] := ⟨rfl, (fun z hz => by rw [List.mem_singleton] at hz; subst hz; exact hy), .inr ⟨_, rfl, by simp, cell_one_new _ _ _⟩⟩
  refine wp_join (hown.alloc _) (by simp; omega) hr (by omega) s x t c ho ht hs hx fun v' w' h1 h2 h4 => h v' w' h1 ?_ ?_
  · have h5 := World.grownBy_alloc W (.cells #[.int .i64 y] 3) v.ownBlock
    exact ⟨h2.os.trans h5.os, h2.tape.trans h5.tape, h2.output.trans h5.output, Nat.le_trans h5.size h2.size, fun k hk hne => (h2.block k (by simp; omega) hne).trans (h5.block k hk hne)⟩
  · rcases h4 with h4 | ⟨k, h4, hk⟩
    · exact .inl h4
    · exact .inr ⟨k, h4, by simp at hk; omega⟩

theorem step_push_drew {ops : Array Oper} {o : Oper} {a : Act} {W : World} {K : Act → World → Prop} {Q : Exit → Act → World → Prop} {E : Prop} {B : Nat} {y : Int} {v : Value} {acc : List Int} (hown : OwnInts W B v acc) (hB : B ≤ W.heap.size)
    (hy : -9223372036854775808 ≤ y ∧ y ≤ 9223372036854775807) (hlen : acc.length < 1099511627776) (hgd : o.guard = none) (s x : Operand) (t : TypeId) (c : Nat)
    (ho : o.op = .call { callee := .builtin .append, args := #[s, x], argTypes := #[t, t] }) (ht : Tryz.prog.underlying t = some (.slice 3))
    (hs : a.eval s = v) (hx : a.eval x = .slice (some ⟨W.heap.size, 0, none⟩) 1 c)
    (h : ∀ v' w', OwnInts w' B v' (acc ++ [y]) → W.grownBy w' v.ownBlock → (v'.ownBlock = v.ownBlock ∨ ∃ k, v'.ownBlock = some k ∧ W.heap.size ≤ k) → K (a.put o.dst v') w') :
    if Region.wanted o (yielded ops a.tmps) = true then Oper.wp Tryz.prog o a (W.alloc (.cells #[.int .i64 y] 3)).drew K Q else E :=
  step_push (W := W.drew) (v := v) (show OwnInts W.drew B v acc from hown) hB hy hlen hgd s x t c ho ht hs hx fun v' w' h1 h2 h3 => h v' w' h1 ⟨h2.os, h2.tape, h2.output, h2.size, h2.block⟩ h3

end Go.Proofs.YtfinpehbpcckaaaGreatDoor
end
section
namespace Go.Proofs.YtfinpehbpcckaaaGreatDoor
open Go.RowKit
set_option linter.unusedVariables false

/-- A posting handed back, its positions in memory of the call's own. -/
def PostBack (w : World) (p : Post) (e : Ending) (w' : World) : Prop := ∃ v, e = .returned (.agg #[.int .i64 p.doc, v]) ∧ OwnInts w' w.heap.size v p.places ∧ Below w.heap.size w w'
theorem bcell {W w1 : World} (hb : Below W.heap.size W w1) : (∀ b o, b < W.heap.size → w1.cell? ⟨b, o, none⟩ = W.cell? ⟨b, o, none⟩) ∧ (∀ b o, b < W.heap.size → w1.frozen? ⟨b, o, none⟩ = W.frozen? ⟨b, o, none⟩) :=
  ⟨fun b o h => hb.cell (p := ⟨b, o, none⟩) h, fun b o h => hb.frozen (p := ⟨b, o, none⟩) h⟩
set_option maxRecDepth 100000 in
theorem copied_any (p : Post) (X : Option Addr) (x c : Nat) (w : World) (h : Ints w w.heap.size X x p.places) (hx : x ≤ 1000000000000) : Calls Tryz.prog 80 #[.agg #[.int .i64 p.doc, .slice X x c]] w (PostBack w p) := by
  obtain ⟨d, hd⟩ : ∃ d, p.doc = d := ⟨_, rfl⟩
  have HD := Lib.hid hd
  rw [hd]
  have HI := Lib.hid ((h.below (((Below.refl _ _).alloc (Nat.le_refl _) (.cells #[.int .i64 d, .slice X x c] 52)).alloc (by simp) (.cells #[.int .i64 0, .slice none 0 0] 52))).more (B' := ((w.alloc (.cells #[.int .i64 d, .slice X x c] 52)).alloc (.cells #[.int .i64 0, .slice none 0 0] 52)).heap.size) (by simp; omega))
  clear h hd
  go_enter Tryz.func80, Tryz.ntmps80
  go_wp2_with fail
  refine (clone_any X x c p.places _ HI.out (by omega)).mono ?_
  rintro e w1 ⟨v, rfl, hv, hb⟩
  have hz : w.heap.size + 1 < w1.heap.size := by have := hb.size; simp at this; omega
  have HV := Lib.hid hv
  have HB := Lib.hid hb
  obtain ⟨A, cp, rfl, -, -, -⟩ := hv.ints
  obtain ⟨xn, hxn⟩ : ∃ xn, p.places.length = xn := ⟨_, rfl⟩
  rw [hxn]
  have HXN := Lib.hid hxn
  have hb0 : w1.heap[w.heap.size]? = some (.cells #[.int .i64 d, .slice X x c] 52 (0, 0)) := by
    rw [hb.block _ (by simp; omega), heap_alloc_old _ _ (by simp)]; exact (MapKept.heap_alloc w _).1
  have hb1 : w1.heap[w.heap.size + 1]? = some (.cells #[.int .i64 0, .slice none 0 0] 52 (0, 0)) := by
    rw [hb.block _ (by simp)]
    have := (MapKept.heap_alloc (w.alloc (.cells #[.int .i64 d, .slice X x c] 52)) (.cells #[.int .i64 0, .slice none 0 0] 52)).1
    simpa using this
  have e1 : w1.cell? ⟨w.heap.size, 1, none⟩ = some (.slice X x c) := by simp [World.cell?, hb0]
  have f1 : w1.frozen? ⟨w.heap.size, 1, none⟩ = false := by simp [World.frozen?, hb0]
  have k0 : w1.cell? ⟨w.heap.size + 1, 0, none⟩ = some (.int .i64 0) := by simp [World.cell?, hb1]
  have k1 : w1.cell? ⟨w.heap.size + 1, 1, none⟩ = some (.slice none 0 0) := by simp [World.cell?, hb1]
  have j0 : w1.frozen? ⟨w.heap.size + 1, 0, none⟩ = false := by simp [World.frozen?, hb1]
  have j1 : w1.frozen? ⟨w.heap.size + 1, 1, none⟩ = false := by simp [World.frozen?, hb1]
  have hb0' : (w1.setCell ⟨w.heap.size, 1, none⟩ (.slice A xn cp)).heap[w.heap.size]? = some (.cells #[.int .i64 d, .slice A xn cp] 52 (0, 0)) := heap_setCell_same w1 _ 1 _ 52 _ hb0
  have hb1' : (w1.setCell ⟨w.heap.size, 1, none⟩ (.slice A xn cp)).heap[w.heap.size + 1]? = some (.cells #[.int .i64 0, .slice none 0 0] 52 (0, 0)) := by
    rw [heap_setCell_other w1 ⟨w.heap.size, 1, none⟩ _ _ (by simp)]; exact hb1
  have g0 : (w1.setCell ⟨w.heap.size, 1, none⟩ (.slice A xn cp)).cell? ⟨w.heap.size, 0, none⟩ = some (.int .i64 d) := by simp [World.cell?, hb0']
  have g1 : (w1.setCell ⟨w.heap.size, 1, none⟩ (.slice A xn cp)).cell? ⟨w.heap.size, 1, none⟩ = some (.slice A xn cp) := by simp [World.cell?, hb0']
  have hbz := heap_setCell_same _ (w.heap.size + 1) 1 _ 52 (.slice A xn cp) (heap_setCell_same _ (w.heap.size + 1) 0 _ 52 (.int .i64 d) hb1')
  have r0 : (((w1.setCell ⟨w.heap.size, 1, none⟩ (.slice A xn cp)).setCell ⟨w.heap.size + 1, 0, none⟩ (.int .i64 d)).setCell ⟨w.heap.size + 1, 1, none⟩ (.slice A xn cp)).cell? ⟨w.heap.size + 1, 0, none⟩ = some (.int .i64 d) := by simp [World.cell?, hbz]
  have r1 : (((w1.setCell ⟨w.heap.size, 1, none⟩ (.slice A xn cp)).setCell ⟨w.heap.size + 1, 0, none⟩ (.int .i64 d)).setCell ⟨w.heap.size + 1, 1, none⟩ (.slice A xn cp)).cell? ⟨w.heap.size + 1, 1, none⟩ = some (.slice A xn cp) := by simp [World.cell?, hbz]
  have R0 := Lib.hid r0
  have R1 := Lib.hid r1
  clear hv hb hb0 hb1 hb0' hb1' hxn hbz r0 r1
  go_wp2
  have r0 := R0.out
  have r1 := R1.out
  refine bodyPost_ret (v := .agg #[.int .i64 d, .slice A xn cp]) (by simp [results, Tryz.results80, go_sem, r0, r1]) rfl ⟨.slice A xn cp, by rw [HD.out], ?_, ?_⟩
  · have h1 := HV.out
    rw [HXN.out] at h1
    refine ((h1.more (B' := w.heap.size) (by simp; omega)).block fun g hg => ?_)
    have h2 := (HV.out.1.lt g (by rw [HXN.out]; exact hg)).1
    simp at h2
    rw [heap_setCell_other _ _ _ _ (by simp; omega), heap_setCell_other _ _ _ _ (by simp; omega), heap_setCell_other _ _ _ _ (by simp; omega)]
  · exact ((((((Below.refl _ _).alloc (Nat.le_refl _) _).alloc (by simp) _).trans (HB.out.mono (by simp; omega))).setCell (by simp) _).setCell (by simp) _).setCell (by simp) _

/-- What the call that adds a position leaves: the posting at block g has it, in memory from g + 1 on. -/
def UnionPost (w : World) (g : Nat) (d : Int) (acc : List Int) (r : Ending) (w' : World) : Prop := r = .returned (.tuple #[]) ∧ ∃ v', w'.heap[g]? = some (.cells #[.int .i64 d, v'] 52 (0, 0)) ∧ OwnInts w' (g + 1) v' acc ∧ Off (fun k => g ≤ k) w w'
theorem union1_post {w w3 : World} {g : Nat} {d z : Int} {v v' : Value} {acc : List Int} (hbox : w.heap[g]? = some (.cells #[.int .i64 d, v] 52 (0, 0))) (hown : OwnInts w (g + 1) v acc) (h1 : OwnInts w3 (g + 1) v' (acc ++ [z])) (h2 : w.grownBy w3 v.ownBlock) :
    w3.heap[g]? = some (.cells #[.int .i64 d, v] 52 (0, 0)) ∧ (w3.setCell ⟨g, 1, none⟩ v').heap[g]? = some (.cells #[.int .i64 d, v'] 52 (0, 0)) ∧ OwnInts (w3.setCell ⟨g, 1, none⟩ v') (g + 1) v' (acc ++ [z]) ∧ Off (fun k => g ≤ k) w (w3.setCell ⟨g, 1, none⟩ v') := by
  have h3 : w3.heap[g]? = some (.cells #[.int .i64 d, v] 52 (0, 0)) := (h2.block g (heap_lt hbox) fun e => by have := (hown.1.lt g e.symm).1; omega).trans hbox
  refine ⟨h3, heap_setCell_same w3 g 1 _ 52 _ h3, h1.block fun k hk => heap_setCell_other w3 ⟨g, 1, none⟩ k _ (by have := (h1.1.lt k hk).1; show ¬ k = g; omega), ?_⟩
  exact ((Off.refl (fun k => g ≤ k) w).grown h2 fun k e => .inl (by have := (hown.1.lt k e).1; omega)).setCell (p := ⟨g, 1, none⟩) (.inl (Nat.le_refl _)) _
set_option maxRecDepth 100000 in
set_option maxHeartbeats 1000000 in
theorem union1_left (g : Nat) (z d : Int) (v y : Value) (acc : List Int) (ad : Addr) (w : World) (hc : w.cell? ad = some (.int .i64 z)) (hz : -9223372036854775808 ≤ z ∧ z ≤ 9223372036854775807)
    (hbox : w.heap[g]? = some (.cells #[.int .i64 d, v] 52 (0, 0))) (hown : OwnInts w (g + 1) v acc) (hlen : acc.length < 1099511627776) :
    Calls Tryz.prog 116 #[.pointer (some ad), y, .pointer (some ⟨g, 0, none⟩)] w (UnionPost w g d (acc ++ [z])) := by
  have HBOX := Lib.hid hbox
  have HOWN := Lib.hid hown
  obtain ⟨A, c, rfl, -, -, -⟩ := hown.ints
  have hB : g + 1 ≤ w.heap.size := heap_lt hbox
  have d1 : w.cell? ⟨g, 1, none⟩ = some (.slice A acc.length c) := by simp [World.cell?, hbox]
  have d1a : (w.alloc (.cells #[.int .i64 z] 3)).cell? ⟨g, 1, none⟩ = some (.slice A acc.length c) := (World.cell?_of_block (a := ⟨g, 1, none⟩) (heap_alloc_old w _ hB)).trans d1
  clear hbox hown
  go_enter Tryz.func116, Tryz.ntmps116
  go_wp2
  go_region_law (first | (refine step_push_drew HOWN.out hB hz hlen rfl (.tmp 9) (.tmp 13) 26 1 rfl Tryz.underlying26 rfl rfl ?_; intro a1 w3 hown3 hg3 hat3; (
    obtain ⟨A1, d1', rfl, -, -, -⟩ := hown3.ints
    obtain ⟨k3, k4, k5, k6⟩ := union1_post HBOX.out HOWN.out hown3 hg3
    have e1 : w3.cell? ⟨g, 1, none⟩ = some (.slice A acc.length c) := by simp [World.cell?, k3]
    have ef : w3.frozen? ⟨g, 1, none⟩ = false := by simp [World.frozen?, k3]
    have HF := Lib.hid (And.intro k4 (And.intro k5 k6))
    clear k3 k4 k5 k6 hown3 hg3 hat3)))
  all_goals
    go_wp2
    go_end0
    have hf := HF.out
    rw [show (acc ++ [z]).length = acc.length + 1 by simp] at hf
    exact ⟨rfl, _, hf.1, hf.2.1, hf.2.2⟩
set_option maxRecDepth 100000 in
set_option maxHeartbeats 1000000 in
theorem union1_right (g : Nat) (z d : Int) (v : Value) (acc : List Int) (ad : Addr) (w : World) (hc : w.cell? ad = some (.int .i64 z)) (hz : -9223372036854775808 ≤ z ∧ z ≤ 9223372036854775807)
    (hbox : w.heap[g]? = some (.cells #[.int .i64 d, v] 52 (0, 0))) (hown : OwnInts w (g + 1) v acc) (hlen : acc.length < 1099511627776) :
    Calls Tryz.prog 116 #[.pointer none, .pointer (some ad), .pointer (some ⟨g, 0, none⟩)] w (UnionPost w g d (acc ++ [z])) := by
  have HBOX := Lib.hid hbox
  have HOWN := Lib.hid hown
  obtain ⟨A, c, rfl, -, -, -⟩ := hown.ints
  have hB : g + 1 ≤ w.heap.size := heap_lt hbox
  have d1 : w.cell? ⟨g, 1, none⟩ = some (.slice A acc.length c) := by simp [World.cell?, hbox]
  have d1a : (w.alloc (.cells #[.int .i64 z] 3)).cell? ⟨g, 1, none⟩ = some (.slice A acc.length c) := (World.cell?_of_block (a := ⟨g, 1, none⟩) (heap_alloc_old w _ hB)).trans d1
  clear hbox hown
  go_enter Tryz.func116, Tryz.ntmps116
  go_wp2
  go_region_law (first | (refine step_push_drew HOWN.out hB hz hlen rfl (.tmp 9) (.tmp 13) 26 1 rfl Tryz.underlying26 rfl rfl ?_; intro a1 w3 hown3 hg3 hat3; (
    obtain ⟨A1, d1', rfl, -, -, -⟩ := hown3.ints
    obtain ⟨k3, k4, k5, k6⟩ := union1_post HBOX.out HOWN.out hown3 hg3
    have e1 : w3.cell? ⟨g, 1, none⟩ = some (.slice A acc.length c) := by simp [World.cell?, k3]
    have ef : w3.frozen? ⟨g, 1, none⟩ = false := by simp [World.frozen?, k3]
    have HF := Lib.hid (And.intro k4 (And.intro k5 k6))
    clear k3 k4 k5 k6 hown3 hg3 hat3)))
  all_goals
    go_wp2
    go_end0
    have hf := HF.out
    rw [show (acc ++ [z]).length = acc.length + 1 by simp] at hf
    exact ⟨rfl, _, hf.1, hf.2.1, hf.2.2⟩

/-- What union's loop holds. -/
def UnionInv (w0 : World) (g : Nat) (d : Int) (done : List (Option Int × Option Int)) (w : World) : Prop := Below g w0 w ∧ ∃ v, w.heap[g]? = some (.cells #[.int .i64 d, v] 52 (0, 0)) ∧ OwnInts w (g + 1) v (done.map (evKey id))
theorem callable_union1 : Callable 116 := callable_of Tryz.func116 (by kernel_rfl) (by kernel_rfl)
theorem union_sees {w0 : World} {B g : Nat} {d : Int} {a b : List Int} (hB : B ≤ w0.heap.size) (hg : B ≤ g) (hgw : g ≤ w0.heap.size) (ha : a.Pairwise (· < ·)) (hb : b.Pairwise (· < ·)) (hl : a.length + b.length < 1099511627776) :
    Sees (IntPtr B) (evs id a b) (UnionInv w0 g d) 116 #[.pointer (some ⟨g, 0, none⟩)] B w0 := by
  refine ⟨fun done e rest w x y hE hI hx hy => ?_, callable_union1, fun done w w' hI hb => ?_, fun done w hI => hI.1.mono hg, hB⟩
  · obtain ⟨hbl, v, hbox, hown⟩ := hI
    have hlen : (done.map (evKey id)).length < 1099511627776 := by
      have h1 := evs_len (key := id) a b
      rw [← hE] at h1
      simp at h1 ⊢
      omega
    have hev := evs_ok (key := id) a b ha hb e (by rw [← hE]; simp)
    have fin : ∀ z r w', evKey id e = z → UnionPost w g d (done.map (evKey id) ++ [z]) r w' → (∃ v, r = .returned v) ∧ UnionInv w0 g d (done ++ [e]) w' := by
      rintro z r w' hz ⟨rfl, v', h1, h2, h3⟩
      refine ⟨⟨_, rfl⟩, hbl.trans (h3.below (B := g) ?_ fun k hk => hk), v', h1, ?_⟩
      · have := hbl.size; omega
      · rw [List.map_append]; simp only [List.map_cons, List.map_nil]; rw [hz]; exact h2
    obtain ⟨e1, e2⟩ := e
    cases e1 with
    | none => cases e2 with
      | none => exact hev.elim
      | some z =>
        have hx' : x = .pointer none := hx
        obtain ⟨ad, rfl, _, hc, h0, h1⟩ := hy
        subst hx'
        exact (union1_right g z d v (done.map (evKey id)) ad w hc ⟨h0, h1⟩ hbox hown hlen).mono fun r w' h => fin z r w' rfl h
    | some z =>
      obtain ⟨ad, rfl, _, hc, h0, h1⟩ := hx
      exact (union1_left g z d v y (done.map (evKey id)) ad w hc ⟨h0, h1⟩ hbox hown hlen).mono fun r w' h => fin z r w' rfl h
  · obtain ⟨hbl, v, hbox, hown⟩ := hI
    exact ⟨hbl.trans (hb.mono (by have := hbl.size; omega)), v, (hb.block g (heap_lt hbox)).trans hbox, hown.block fun k hk => hb.block k (hown.1.lt k hk).2⟩

set_option maxRecDepth 100000 in
set_option maxHeartbeats 2000000 in
theorem union_any (p q : Post) (X Y : Option Addr) (nx cx ny cy : Nat) (w : World) (hx : Ints w w.heap.size X nx p.places) (hy : Ints w w.heap.size Y ny q.places) (hnx : nx ≤ cx) (hcx : cx ≤ maxLen) (hny : ny ≤ cy) (hcy : cy ≤ maxLen)
    (hp : p.places.Pairwise (· < ·)) (hq : q.places.Pairwise (· < ·)) (hl : nx + ny < 1099511627776) :
    Calls Tryz.prog 81 #[.agg #[.int .i64 p.doc, .slice X nx cx], .agg #[.int .i64 q.doc, .slice Y ny cy]] w (PostBack w ⟨p.doc, unionP p.places q.places⟩) := by
  obtain ⟨d, hd⟩ : ∃ d, p.doc = d := ⟨_, rfl⟩
  obtain ⟨d2, hd2⟩ : ∃ d, q.doc = d := ⟨_, rfl⟩
  rw [hd, hd2]
  obtain ⟨W, hW⟩ : ∃ W, (((w.alloc (.cells #[.int .i64 d, .slice X nx cx] 52)).alloc (.cells #[.int .i64 d2, .slice Y ny cy] 52)).alloc (.cells #[.int .i64 0, .slice none 0 0] 52)).alloc (.cells #[.int .i64 d, .slice none 0 0] 52) = W := ⟨_, rfl⟩
  have hsz : W.heap.size = w.heap.size + 4 := by rw [← hW]; simp
  have hbw : Below w.heap.size w W := by rw [← hW]; exact ((((Below.refl _ _).alloc (Nat.le_refl _) _).alloc (by simp) _).alloc (by simp; omega) _).alloc (by simp; omega) _
  have hres : W.heap[w.heap.size + 2]? = some (.cells #[.int .i64 0, .slice none 0 0] 52 (0, 0)) := by
    rw [← hW, heap_alloc_old _ _ (by simp)]
    have := (MapKept.heap_alloc ((w.alloc (.cells #[.int .i64 d, .slice X nx cx] 52)).alloc (.cells #[.int .i64 d2, .slice Y ny cy] 52)) (.cells #[.int .i64 0, .slice none 0 0] 52)).1
    simpa using this
  have hout : W.heap[w.heap.size + 3]? = some (.cells #[.int .i64 d, .slice none 0 0] 52 (0, 0)) := by
    rw [← hW]
    have := (MapKept.heap_alloc (((w.alloc (.cells #[.int .i64 d, .slice X nx cx] 52)).alloc (.cells #[.int .i64 d2, .slice Y ny cy] 52)).alloc (.cells #[.int .i64 0, .slice none 0 0] 52)) (.cells #[.int .i64 d, .slice none 0 0] 52)).1
    simpa using this
  have HC := Lib.hid (both_ints (union_sees (w0 := W) (B := w.heap.size) (g := w.heap.size + 3) (d := d) (a := p.places) (b := q.places) (by omega) (by omega) (by omega) hp hq (by rw [hx.len, hy.len]; exact hl)) X Y nx ny cx cy p.places q.places W (hx.below hbw) (hy.below hbw) hnx hcx hny hcy rfl
    ⟨Below.refl _ _, _, hout, OwnInts.nil_ _ _⟩)
  have HW := Lib.hid hW
  have HSZ := Lib.hid hsz
  have HBW := Lib.hid hbw
  have HRES := Lib.hid hres
  have HD := Lib.hid hd
  clear hx hy hp hq hW hsz hbw hres hout hd hd2
  go_enter Tryz.func81, Tryz.ntmps81
  go_wp2_with fail
  rw [HW.out]
  refine HC.out.mono ?_
  rintro e w5 ⟨rfl, hb, v, hbox, hown⟩
  have hs5 : w.heap.size + 4 ≤ w5.heap.size := by have := hb.size; have := HSZ.out; omega
  have hres5 := (hb.block (w.heap.size + 2) (by omega)).trans HRES.out
  obtain ⟨A, c, rfl, -, -, -⟩ := hown.ints
  have hul : List.map (evKey id) (evs id p.places q.places) = unionP p.places q.places := rfl
  rw [hul] at hown hbox
  clear hul
  obtain ⟨u, hu⟩ : ∃ u, unionP p.places q.places = u := ⟨_, rfl⟩
  rw [hu] at hown hbox ⊢
  obtain ⟨un, hun⟩ : ∃ n, u.length = n := ⟨_, rfl⟩
  rw [hun] at hown hbox
  have HUN := Lib.hid hun
  have HU := Lib.hid hu
  have HOWN := Lib.hid hown
  have HB := Lib.hid hb
  have e0 : w5.cell? ⟨w.heap.size + 3, 0, none⟩ = some (.int .i64 d) := by simp [World.cell?, hbox]
  have e1 : w5.cell? ⟨w.heap.size + 3, 1, none⟩ = some (.slice A un c) := by simp [World.cell?, hbox]
  have k0 : w5.cell? ⟨w.heap.size + 2, 0, none⟩ = some (.int .i64 0) := by simp [World.cell?, hres5]
  have k1 : w5.cell? ⟨w.heap.size + 2, 1, none⟩ = some (.slice none 0 0) := by simp [World.cell?, hres5]
  have j0 : w5.frozen? ⟨w.heap.size + 2, 0, none⟩ = false := by simp [World.frozen?, hres5]
  have j1 : w5.frozen? ⟨w.heap.size + 2, 1, none⟩ = false := by simp [World.frozen?, hres5]
  have hbz := heap_setCell_same _ (w.heap.size + 2) 1 _ 52 (.slice A un c) (heap_setCell_same _ (w.heap.size + 2) 0 _ 52 (.int .i64 d) hres5)
  have R0 := Lib.hid (show ((w5.setCell ⟨w.heap.size + 2, 0, none⟩ (.int .i64 d)).setCell ⟨w.heap.size + 2, 1, none⟩ (.slice A un c)).cell? ⟨w.heap.size + 2, 0, none⟩ = some (.int .i64 d) by simp [World.cell?, hbz])
  have R1 := Lib.hid (show ((w5.setCell ⟨w.heap.size + 2, 0, none⟩ (.int .i64 d)).setCell ⟨w.heap.size + 2, 1, none⟩ (.slice A un c)).cell? ⟨w.heap.size + 2, 1, none⟩ = some (.slice A un c) by simp [World.cell?, hbz])
  clear hbox hown hu hun hb hres5 hbz
  go_wp2
  have r0 := R0.out
  have r1 := R1.out
  refine bodyPost_ret (v := .agg #[.int .i64 d, .slice A un c]) (by simp [results, Tryz.results81, go_sem, r0, r1]) rfl ⟨.slice A un c, rfl, ?_, ?_⟩
  · show OwnInts _ _ _ (unionP p.places q.places)
    rw [HU.out]
    refine ((HOWN.out.more (B' := w.heap.size) (by omega)).block fun g hg => ?_)
    have h2 := (HOWN.out.1.lt g hg).1
    rw [heap_setCell_other _ _ _ _ (by simp; omega), heap_setCell_other _ _ _ _ (by simp; omega)]
  · exact ((HBW.out.trans (HB.out.mono (by omega))).setCell (by simp; omega) _).setCell (by simp; omega) _
end Go.Proofs.YtfinpehbpcckaaaGreatDoor
end
section
namespace Go.Proofs.YtfinpehbpcckaaaGreatDoor
open Go.RowKit
set_option linter.unusedVariables false

set_option maxRecDepth 100000 in
theorem wp_pushPost {o : Oper} {a : Act} {K : Act → World → Prop} {W : World} {Q : Exit → Act → World → Prop} {B : Nat} {v : Value} {ps : List (Post × Value)} {p : Post} {X : Option Addr} {x cx : Nat} (hT : OwnPosts W B v ps) (hB : B ≤ W.heap.size)
    (hk : PlacesIn W v.ownBlock (p, .slice X x cx)) (hlen : ps.length ≤ 1000000000) (s y : Operand) (c : Nat)
    (ho : o.op = .call { callee := .builtin .append, args := #[s, y], argTypes := #[36, 36] }) (hs : a.eval s = v) (hx : a.eval y = .slice (some ⟨W.heap.size, 0, none⟩) 1 c)
    (h : ∀ v' w', OwnPosts w' B v' (ps ++ [(p, .slice X x cx)]) → W.grownBy w' v.ownBlock → K (a.put o.dst v') w') : o.wp Tryz.prog a (W.alloc (.cells #[.int .i64 p.doc, .slice X x cx] 52)) K Q := by
  obtain ⟨i0, hi, hz0, hz1, hz2⟩ := info_parts post_info
  obtain ⟨v', w', hrun, h1, h2, _, h4⟩ := run_append_own_at (P := Tryz.prog) (W.alloc (.cells #[.int .i64 p.doc, .slice X x cx] 52)) B 36 o.type 52 i0 _ 2 32 Tryz.underlying36 hi hz0 hz1 hz2 rfl (by omega) v ps.length (ps.flatMap postCells) (hT.row.alloc _) ⟨W.heap.size, 0, none⟩ 1 c (postCells (p, .slice X x cx)) rfl (World.news_of_block (MapKept.heap_alloc W _).1) (by
    intro u hu
    simp only [postCells, List.mem_cons, List.not_mem_nil, or_false] at hu
    rcases hu with rfl | rfl <;> rfl) (by simp only [maxLen]; omega) (by omega) (by simp; omega)
  have h5 := World.grownBy_alloc W (.cells #[.int .i64 p.doc, .slice X x cx] 52) v.ownBlock
  have hg : W.grownBy w' v.ownBlock := ⟨h2.os.trans h5.os, h2.tape.trans h5.tape, h2.output.trans h5.output, Nat.le_trans h5.size h2.size, fun k hk hne => (h2.block k (by simp; omega) hne).trans (h5.block k hk hne)⟩
  have hin : ∀ q, q ∈ ps ++ [(p, .slice X x cx)] → PlacesIn W v.ownBlock q := fun q hq => by
    rcases List.mem_append.1 hq with hq | hq
    · exact hT.each q hq
    · rw [List.mem_singleton.1 hq]; exact hk
  have hfin : OwnPosts w' B v' (ps ++ [(p, .slice X x cx)]) := by
    refine ⟨by simpa using h1, fun q hq => ?_⟩
    obtain ⟨X', x', c', e, r1, r2, r3, r4, r5⟩ := hin q hq
    rcases r4.2.2 with e0 | ⟨ad, e1, hl, hcell⟩
    · have e2 : q.1.places = [] := by simpa [iv] using e0
      exact ⟨X', x', c', e, r1, r2, r3, ⟨r4.1, r4.2.1, .inl e0⟩, fun hne => absurd e2 hne⟩
    · by_cases hne : q.1.places = []
      · exact ⟨X', x', c', e, r1, r2, r3, ⟨r4.1, r4.2.1, .inl (by rw [hne]; rfl)⟩, fun h => absurd hne h⟩
      · have h6 := r5 hne ad e1
        refine ⟨X', x', c', e, r1, r2, r3, r4.keepAt hg.size fun ad' e' => ?_, fun _ ad' e' => ?_⟩
        · rw [e1] at e'; have e2 := Option.some.inj e'; subst e2
          exact hg.block _ hl (fun e3 => h6 e3.symm)
        · rw [e1] at e'; have e2 := Option.some.inj e'; subst e2
          rcases h4 with h4 | h4
          · rw [h4]; exact h6
          · rw [h4]
            intro e3
            have e4 := Option.some.inj e3
            simp at e4
            omega
  unfold Oper.wp execOp
  simp only [ho, resolve, invoke, builtin, Sem.run_bind, Sem.run_pure, Result.andThen_ok, List.map_toArray, List.map_cons, List.map_nil, hs, hx, hrun]
  exact h v' w' hfin hg
theorem step_pushPost {ops : Array Oper} {o : Oper} {a : Act} {W : World} {K : Act → World → Prop} {Q : Exit → Act → World → Prop} {E : Prop} {B : Nat} {v : Value} {ps : List (Post × Value)} {p : Post} {X : Option Addr} {x cx : Nat} (hT : OwnPosts W B v ps) (hB : B ≤ W.heap.size)
    (hk : PlacesIn W v.ownBlock (p, .slice X x cx)) (hlen : ps.length ≤ 1000000000) (hgd : o.guard = none) (s y : Operand) (c : Nat)
    (ho : o.op = .call { callee := .builtin .append, args := #[s, y], argTypes := #[36, 36] }) (hs : a.eval s = v) (hx : a.eval y = .slice (some ⟨W.heap.size, 0, none⟩) 1 c)
    (h : ∀ v' w', OwnPosts w' B v' (ps ++ [(p, .slice X x cx)]) → W.grownBy w' v.ownBlock → K (a.put o.dst v') w') :
    if Region.wanted o (yielded ops a.tmps) = true then Oper.wp Tryz.prog o a (W.alloc (.cells #[.int .i64 p.doc, .slice X x cx] 52)) K Q else E := by
  have hw : Region.wanted o (yielded ops a.tmps) = true := by simp [Region.wanted, hgd]
  rw [if_pos hw]
  exact wp_pushPost hT hB hk hlen s y c ho hs hx h
end Go.Proofs.YtfinpehbpcckaaaGreatDoor
end
