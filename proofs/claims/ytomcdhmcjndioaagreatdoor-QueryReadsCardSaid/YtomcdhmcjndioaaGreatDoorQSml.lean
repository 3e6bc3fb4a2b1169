/- Layer 37: the laws' small() is true (printed by gen_qsml.py). -/
import Derived.Test.YtomcdhmcjndioaaGreatDoorV10
import Derived.Test.YtomcdhmcjndioaaGreatDoorV11
import Derived.Test.YtomcdhmcjndioaaGreatDoorV27
namespace Go.Proofs.YtomcdhmcjndioaaGreatDoor
open Go.RowKit
set_option linter.unusedVariables false

theorem small_p1 : parseQ [102, 114, 111, 109, 58, 97, 110, 110, 32, 45, 40, 120, 32, 79, 82, 32, 34, 121, 32, 122, 34, 41, 32, 108, 97, 114, 103, 101, 114, 58, 50, 75] = (qT, 0, 0) := by kernel_rfl
theorem small_p2 : parseQ [97, 32, 40, 98] = (noQ, 2, 4) := by kernel_rfl
theorem small_p3 : parseQ [97, 32, 79, 82, 32, 79, 82, 32, 98] = (noQ, 2, 5) := by kernel_rfl
theorem small_p4 : parseQ [32] = (.mk 1 0 [] 0 [], 0, 0) := by kernel_rfl
theorem small_p5 : parseQ [73, 115, 58, 83, 101, 101, 110, 32, 65, 78, 68, 32, 98, 101, 102, 111, 114, 101, 58, 50, 48, 48, 48, 45, 48, 49, 45, 48, 50, 32, 116, 111, 58, 34, 65, 98, 45, 99, 34, 32, 78, 79, 84, 32, 100, 42, 32, 105, 110, 58, 55] = (rT, 0, 0) := by kernel_rfl
theorem small_p6 : parseQ [45, 45, 45, 45, 45, 45, 45, 45, 45, 97] = (noQ, 10, 8) := by kernel_rfl
theorem words_qT : WordsC qT [[97, 110, 110]] := by
  have h := words_node 11 0 0 [] [.mk 2 1 [97, 110, 110] 0 [], .mk 13 0 [] 0 [orT], .mk 9 0 [] 2048 []] [[[97, 110, 110]], [], []] 3 rfl rfl (by decide) (by decide) (by decide) (by decide) (by decide) (by decide) fun k h1 h2 => by
    match k, h1 with
    | 0, _ => exact words_word 1 _ _ (by kernel_rfl) (by decide) (by decide)
    | 1, _ => exact words_not 0 0 [] _
    | 2, _ => exact words_node 9 0 2048 [] [] [] 0 rfl rfl (by decide) (by decide) (by decide) (by decide) (by decide) (by decide) fun k h1 => by simp at h1
  exact h
/-- A string equal to a list of bytes, in the walk's words. -/
theorem agg_open {r : RawQ} : ∃ o f t n A m c, r = ⟨o, f, t, n, (A, m, c)⟩ := by
  obtain ⟨o, f, t, n, A, m, c⟩ := r
  exact ⟨o, f, t, n, A, m, c, rfl⟩
/-- Child k of a query in memory. -/
theorem kid_at {w : World} {A : Option Addr} {n : Nat} {l : List Qry} {raws : List RawQ} (h : KidsIn w A n l raws) (k : Nat) (hk : k < l.length) : ∃ (ad : Addr) (r : RawQ), A = some ad ∧ (ad.add (k * 5)).block < w.heap.size ∧ QDeep w (fun _ => True) r l[k] ∧ w.cell? (ad.add (k * 5)) = some (.int .i64 r.op) ∧ w.cell? ⟨(ad.add (k * 5)).block, (ad.add (k * 5)).off + 1, none⟩ = some (.int .i64 r.fld) ∧ w.cell? ⟨(ad.add (k * 5)).block, (ad.add (k * 5)).off + 2, none⟩ = some (.string (ba r.text)) ∧ w.cell? ⟨(ad.add (k * 5)).block, (ad.add (k * 5)).off + 3, none⟩ = some (.int .i64 r.n) ∧ w.cell? ⟨(ad.add (k * 5)).block, (ad.add (k * 5)).off + 4, none⟩ = some (.slice r.kids.1 r.kids.2.1 r.kids.2.2) := by
  have hkr : k < raws.length := by rw [h.len]; exact hk
  obtain ⟨ad, e, hb, c0, c1, c2, c3, c4, _⟩ := h.row.2 k hkr
  exact ⟨ad, raws[k], e, hb, h.all k hkr hk, c0, c1, c2, c3, c4⟩
theorem cell_below {W W2 : World} {p : Addr} {v : Value} (h : W.cell? p = some v) (hb : Below W.heap.size W W2) : W2.cell? p = some v := (hb.cell (block_lt_of_cell h)).trans h
structure SmlQ (W : World) (g : Nat) (ad : Addr) (c : Nat) (ad1 : Addr) (c1 : Nat) (ad2 : Addr) (c2 : Nat) : Prop where
  b0 : W.cell? ⟨g, 0, none⟩ = some (.int .i64 11)
  b1 : W.cell? ⟨g, 1, none⟩ = some (.int .i64 0)
  b2 : W.cell? ⟨g, 2, none⟩ = some (.string ⟨#[]⟩)
  b3 : W.cell? ⟨g, 3, none⟩ = some (.int .i64 0)
  b4 : W.cell? ⟨g, 4, none⟩ = some (.slice (some ad) 3 c)
  k00 : W.cell? ad = some (.int .i64 2)
  k01 : W.cell? ⟨ad.block, ad.off + 1, none⟩ = some (.int .i64 1)
  k02 : W.cell? ⟨ad.block, ad.off + 2, none⟩ = some (.string ⟨#[97, 110, 110]⟩)
  k10 : W.cell? ⟨ad.block, ad.off + 5, none⟩ = some (.int .i64 13)
  k14 : W.cell? ⟨ad.block, ad.off + 9, none⟩ = some (.slice (some ad1) 1 c1)
  k20 : W.cell? ⟨ad.block, ad.off + 10, none⟩ = some (.int .i64 9)
  k23 : W.cell? ⟨ad.block, ad.off + 13, none⟩ = some (.int .i64 2048)
  o0 : W.cell? ad1 = some (.int .i64 12)
  o1 : W.cell? ⟨ad1.block, ad1.off + 1, none⟩ = some (.int .i64 0)
  o2 : W.cell? ⟨ad1.block, ad1.off + 2, none⟩ = some (.string ⟨#[]⟩)
  o3 : W.cell? ⟨ad1.block, ad1.off + 3, none⟩ = some (.int .i64 0)
  o4 : W.cell? ⟨ad1.block, ad1.off + 4, none⟩ = some (.slice (some ad2) 2 c2)
  y0 : W.cell? ⟨ad2.block, ad2.off + 5, none⟩ = some (.int .i64 3)
  y2 : W.cell? ⟨ad2.block, ad2.off + 7, none⟩ = some (.string ⟨#[121, 32, 122]⟩)
theorem SmlQ.below {W W2 : World} {g : Nat} {ad : Addr} {c : Nat} {ad1 : Addr} {c1 : Nat} {ad2 : Addr} {c2 : Nat} (h : SmlQ W g ad c ad1 c1 ad2 c2) (hb : Below W.heap.size W W2) : SmlQ W2 g ad c ad1 c1 ad2 c2 :=
  ⟨cell_below h.b0 hb, cell_below h.b1 hb, cell_below h.b2 hb, cell_below h.b3 hb, cell_below h.b4 hb, cell_below h.k00 hb, cell_below h.k01 hb, cell_below h.k02 hb, cell_below h.k10 hb, cell_below h.k14 hb, cell_below h.k20 hb, cell_below h.k23 hb, cell_below h.o0 hb, cell_below h.o1 hb, cell_below h.o2 hb, cell_below h.o3 hb, cell_below h.o4 hb, cell_below h.y0 hb, cell_below h.y2 hb⟩
structure SmlR (W : World) (g : Nat) (ad : Addr) (c : Nat) (ad1 : Addr) (c1 : Nat) : Prop where
  b0 : W.cell? ⟨g, 0, none⟩ = some (.int .i64 11)
  b1 : W.cell? ⟨g, 1, none⟩ = some (.int .i64 0)
  b2 : W.cell? ⟨g, 2, none⟩ = some (.string ⟨#[]⟩)
  b3 : W.cell? ⟨g, 3, none⟩ = some (.int .i64 0)
  b4 : W.cell? ⟨g, 4, none⟩ = some (.slice (some ad) 5 c)
  k00 : W.cell? ad = some (.int .i64 5)
  k02 : W.cell? ⟨ad.block, ad.off + 2, none⟩ = some (.string ⟨#[115, 101, 101, 110]⟩)
  k10 : W.cell? ⟨ad.block, ad.off + 5, none⟩ = some (.int .i64 7)
  k13 : W.cell? ⟨ad.block, ad.off + 8, none⟩ = some (.int .i64 946771200)
  k20 : W.cell? ⟨ad.block, ad.off + 10, none⟩ = some (.int .i64 3)
  k21 : W.cell? ⟨ad.block, ad.off + 11, none⟩ = some (.int .i64 2)
  k22 : W.cell? ⟨ad.block, ad.off + 12, none⟩ = some (.string ⟨#[97, 98, 32, 99]⟩)
  k34 : W.cell? ⟨ad.block, ad.off + 19, none⟩ = some (.slice (some ad1) 1 c1)
  k43 : W.cell? ⟨ad.block, ad.off + 23, none⟩ = some (.int .i64 7)
  n0 : W.cell? ad1 = some (.int .i64 4)
theorem SmlR.below {W W2 : World} {g : Nat} {ad : Addr} {c : Nat} {ad1 : Addr} {c1 : Nat} (h : SmlR W g ad c ad1 c1) (hb : Below W.heap.size W W2) : SmlR W2 g ad c ad1 c1 :=
  ⟨cell_below h.b0 hb, cell_below h.b1 hb, cell_below h.b2 hb, cell_below h.b3 hb, cell_below h.b4 hb, cell_below h.k00 hb, cell_below h.k02 hb, cell_below h.k10 hb, cell_below h.k13 hb, cell_below h.k20 hb, cell_below h.k21 hb, cell_below h.k22 hb, cell_below h.k34 hb, cell_below h.k43 hb, cell_below h.n0 hb⟩
theorem qT_ne : qT ≠ rT := by
  unfold qT rT
  intro h
  injection h with _ _ _ _ h
  injection h with h
  injection h with h
  cases h
theorem sml_q {W : World} {g : Nat} {A : Option Addr} {c : Nat} (hb : WBox W g ⟨11, 0, [], 0, (A, 3, c)⟩) (hd : QDeep W (fun _ => True) ⟨11, 0, [], 0, (A, 3, c)⟩ qT) : ∃ ad ad1 c1 ad2 c2, A = some ad ∧ SmlQ W g ad c ad1 c1 ad2 c2 := by
  obtain ⟨kids, raws, e, hk, _, _⟩ := QDeep.open_ hd
  unfold qT at e
  injection e with e1 e2 e3 e4 e5
  subst e5
  obtain ⟨ad, rad, ead, _, hqad, d0, d1, d2, d3, d4⟩ := kid_at hk 0 (by decide)
  subst ead
  have fad : ad.add (0 * 5) = ad := by unfold Addr.add; rfl
  rw [fad] at d0 d1 d2 d3 d4
  obtain ⟨_, _, e⟩ := leaf_open hqad
  subst e
  have k00 := d0
  have k01 := d1
  have k02 := d2
  clear d0 d1 d2 d3 d4
  obtain ⟨ax, rn, ea, _, hqn, d0, d1, d2, d3, d4⟩ := kid_at hk 1 (by decide)
  have ea : ad = ax := by injection ea
  subst ea
  have fn : ad.add (1 * 5) = ⟨ad.block, ad.off + 5, none⟩ := by unfold Addr.add; rfl
  rw [fn] at d0 d1 d2 d3 d4
  obtain ⟨on, fn, tn, nn, An, mn, cn, e⟩ := agg_open (r := rn)
  subst e
  obtain ⟨kkn, rawsn, e, hkn, _, _⟩ := QDeep.open_ hqn
  injection e with e1 e2 e3 e4 e5
  subst e1 e2 e3 e4 e5
  have hmn := hkn.size
  dsimp only [List.length_cons, List.length_nil] at hmn
  subst hmn
  have k10 := d0
  have k14 := d4
  clear d0 d1 d2 d3 d4
  obtain ⟨ax, rl, ea, _, hql, d0, d1, d2, d3, d4⟩ := kid_at hk 2 (by decide)
  have ea : ad = ax := by injection ea
  subst ea
  have fl : ad.add (2 * 5) = ⟨ad.block, ad.off + 10, none⟩ := by unfold Addr.add; rfl
  rw [fl] at d0 d1 d2 d3 d4
  obtain ⟨_, _, e⟩ := leaf_open hql
  subst e
  have k20 := d0
  have k23 := d3
  clear d0 d1 d2 d3 d4
  obtain ⟨ad1, rad1, ead1, _, hqad1, d0, d1, d2, d3, d4⟩ := kid_at hkn 0 (by decide)
  subst ead1
  have fad1 : ad1.add (0 * 5) = ad1 := by unfold Addr.add; rfl
  rw [fad1] at d0 d1 d2 d3 d4
  unfold orT at hqad1
  obtain ⟨oad1, fad1, tad1, nad1, Aad1, mad1, cad1, e⟩ := agg_open (r := rad1)
  subst e
  obtain ⟨kkad1, rawsad1, e, hkad1, _, _⟩ := QDeep.open_ hqad1
  injection e with e1 e2 e3 e4 e5
  subst e1 e2 e3 e4 e5
  have hmad1 := hkad1.size
  dsimp only [List.length_cons, List.length_nil] at hmad1
  subst hmad1
  have o0 := d0
  have o1 := d1
  have o2 := d2
  have o3 := d3
  have o4 := d4
  clear d0 d1 d2 d3 d4
  obtain ⟨ad2, rad2, ead2, _, hqad2, d0, d1, d2, d3, d4⟩ := kid_at hkad1 0 (by decide)
  subst ead2
  have fad2 : ad2.add (0 * 5) = ad2 := by unfold Addr.add; rfl
  clear d0 d1 d2 d3 d4
  obtain ⟨ax, ry, ea, _, hqy, d0, d1, d2, d3, d4⟩ := kid_at hkad1 1 (by decide)
  have ea : ad2 = ax := by injection ea
  subst ea
  have fy : ad2.add (1 * 5) = ⟨ad2.block, ad2.off + 5, none⟩ := by unfold Addr.add; rfl
  rw [fy] at d0 d1 d2 d3 d4
  obtain ⟨_, _, e⟩ := leaf_open hqy
  subst e
  have y0 := d0
  have y2 := d2
  clear d0 d1 d2 d3 d4
  obtain ⟨b0, b1, b2, b3, b4, _⟩ := hb.cells
  exact ⟨ad, ad1, cn, ad2, cad1, rfl, ⟨b0, b1, b2, b3, b4, k00, k01, k02, k10, k14, k20, k23, o0, o1, o2, o3, o4, y0, y2⟩⟩
theorem sml_r {W : World} {g : Nat} {A : Option Addr} {c : Nat} (hb : WBox W g ⟨11, 0, [], 0, (A, 5, c)⟩) (hd : QDeep W (fun _ => True) ⟨11, 0, [], 0, (A, 5, c)⟩ rT) : ∃ ad ad1 c1, A = some ad ∧ SmlR W g ad c ad1 c1 := by
  obtain ⟨kids, raws, e, hk, _, _⟩ := QDeep.open_ hd
  unfold rT at e
  injection e with e1 e2 e3 e4 e5
  subst e5
  obtain ⟨ad, rad, ead, _, hqad, d0, d1, d2, d3, d4⟩ := kid_at hk 0 (by decide)
  subst ead
  have fad : ad.add (0 * 5) = ad := by unfold Addr.add; rfl
  rw [fad] at d0 d1 d2 d3 d4
  obtain ⟨_, _, e⟩ := leaf_open hqad
  subst e
  have k00 := d0
  have k02 := d2
  clear d0 d1 d2 d3 d4
  obtain ⟨ax, rp, ea, _, hqp, d0, d1, d2, d3, d4⟩ := kid_at hk 1 (by decide)
  have ea : ad = ax := by injection ea
  subst ea
  have fp : ad.add (1 * 5) = ⟨ad.block, ad.off + 5, none⟩ := by unfold Addr.add; rfl
  rw [fp] at d0 d1 d2 d3 d4
  obtain ⟨_, _, e⟩ := leaf_open hqp
  subst e
  have k10 := d0
  have k13 := d3
  clear d0 d1 d2 d3 d4
  obtain ⟨ax, rt, ea, _, hqt, d0, d1, d2, d3, d4⟩ := kid_at hk 2 (by decide)
  have ea : ad = ax := by injection ea
  subst ea
  have ft : ad.add (2 * 5) = ⟨ad.block, ad.off + 10, none⟩ := by unfold Addr.add; rfl
  rw [ft] at d0 d1 d2 d3 d4
  obtain ⟨_, _, e⟩ := leaf_open hqt
  subst e
  have k20 := d0
  have k21 := d1
  have k22 := d2
  clear d0 d1 d2 d3 d4
  obtain ⟨ax, rn, ea, _, hqn, d0, d1, d2, d3, d4⟩ := kid_at hk 3 (by decide)
  have ea : ad = ax := by injection ea
  subst ea
  have fn : ad.add (3 * 5) = ⟨ad.block, ad.off + 15, none⟩ := by unfold Addr.add; rfl
  rw [fn] at d0 d1 d2 d3 d4
  unfold nT at hqn
  obtain ⟨on, fn, tn, nn, An, mn, cn, e⟩ := agg_open (r := rn)
  subst e
  obtain ⟨kkn, rawsn, e, hkn, _, _⟩ := QDeep.open_ hqn
  injection e with e1 e2 e3 e4 e5
  subst e1 e2 e3 e4 e5
  have hmn := hkn.size
  dsimp only [List.length_cons, List.length_nil] at hmn
  subst hmn
  have k34 := d4
  clear d0 d1 d2 d3 d4
  obtain ⟨ax, rl, ea, _, hql, d0, d1, d2, d3, d4⟩ := kid_at hk 4 (by decide)
  have ea : ad = ax := by injection ea
  subst ea
  have fl : ad.add (4 * 5) = ⟨ad.block, ad.off + 20, none⟩ := by unfold Addr.add; rfl
  rw [fl] at d0 d1 d2 d3 d4
  obtain ⟨_, _, e⟩ := leaf_open hql
  subst e
  have k43 := d3
  clear d0 d1 d2 d3 d4
  obtain ⟨ad1, rad1, ead1, _, hqad1, d0, d1, d2, d3, d4⟩ := kid_at hkn 0 (by decide)
  subst ead1
  have fad1 : ad1.add (0 * 5) = ad1 := by unfold Addr.add; rfl
  rw [fad1] at d0 d1 d2 d3 d4
  obtain ⟨_, _, e⟩ := leaf_open hqad1
  subst e
  have n0 := d0
  clear d0 d1 d2 d3 d4
  obtain ⟨b0, b1, b2, b3, b4, _⟩ := hb.cells
  exact ⟨ad, ad1, cn, rfl, ⟨b0, b1, b2, b3, b4, k00, k02, k10, k13, k20, k21, k22, k34, k43, n0⟩⟩
/-- What the laws' small() hands back. -/
def SmlPost (w : World) (e : Ending) (w' : World) : Prop := e = .returned (.bool true) ∧ Below w.heap.size w w'
set_option maxRecDepth 100000 in
set_option maxHeartbeats 40000000 in
theorem qsmall_true (w : World) (hT : QTabs w) (hP : PowTab w) : Calls Tryz.prog 5 #[] w (SmlPost w) := by
  have HT := Lib.hid hT
  have HP := Lib.hid hP
  have HC1 := Lib.hid (fun W (hW : QTabs W) => (by have h := qparse_any [102, 114, 111, 109, 58, 97, 110, 110, 32, 45, 40, 120, 32, 79, 82, 32, 34, 121, 32, 122, 34, 41, 32, 108, 97, 114, 103, 101, 114, 58, 50, 75] W (by decide) hW; rw [small_p1] at h; exact h : Calls Tryz.prog 6 #[.string ⟨#[102, 114, 111, 109, 58, 97, 110, 110, 32, 45, 40, 120, 32, 79, 82, 32, 34, 121, 32, 122, 34, 41, 32, 108, 97, 114, 103, 101, 114, 58, 50, 75]⟩] W (PaPost W (qT, 0, 0))))
  have HC2 := Lib.hid (fun W (hW : QTabs W) => (by have h := qparse_any [97, 32, 40, 98] W (by decide) hW; rw [small_p2] at h; exact h : Calls Tryz.prog 6 #[.string ⟨#[97, 32, 40, 98]⟩] W (PaPost W (noQ, 2, 4))))
  have HC3 := Lib.hid (fun W (hW : QTabs W) => (by have h := qparse_any [97, 32, 79, 82, 32, 79, 82, 32, 98] W (by decide) hW; rw [small_p3] at h; exact h : Calls Tryz.prog 6 #[.string ⟨#[97, 32, 79, 82, 32, 79, 82, 32, 98]⟩] W (PaPost W (noQ, 2, 5))))
  have HC4 := Lib.hid (fun W (hW : QTabs W) => (by have h := qparse_any [32] W (by decide) hW; rw [small_p4] at h; exact h : Calls Tryz.prog 6 #[.string ⟨#[32]⟩] W (PaPost W (.mk 1 0 [] 0 [], 0, 0))))
  have HC5 := Lib.hid (fun W (hW : QTabs W) => (by have h := qparse_any [73, 115, 58, 83, 101, 101, 110, 32, 65, 78, 68, 32, 98, 101, 102, 111, 114, 101, 58, 50, 48, 48, 48, 45, 48, 49, 45, 48, 50, 32, 116, 111, 58, 34, 65, 98, 45, 99, 34, 32, 78, 79, 84, 32, 100, 42, 32, 105, 110, 58, 55] W (by decide) hW; rw [small_p5] at h; exact h : Calls Tryz.prog 6 #[.string ⟨#[73, 115, 58, 83, 101, 101, 110, 32, 65, 78, 68, 32, 98, 101, 102, 111, 114, 101, 58, 50, 48, 48, 48, 45, 48, 49, 45, 48, 50, 32, 116, 111, 58, 34, 65, 98, 45, 99, 34, 32, 78, 79, 84, 32, 100, 42, 32, 105, 110, 58, 55]⟩] W (PaPost W (rT, 0, 0))))
  have HC6 := Lib.hid (fun W (hW : QTabs W) => (by have h := qparse_any [45, 45, 45, 45, 45, 45, 45, 45, 45, 97] W (by decide) hW; rw [small_p6] at h; exact h : Calls Tryz.prog 6 #[.string ⟨#[45, 45, 45, 45, 45, 45, 45, 45, 45, 97]⟩] W (PaPost W (noQ, 10, 8))))
  clear hT hP
  go_enter Tryz.func5, Tryz.ntmps5
  go_wp2_with fail
  refine (HC1.out w (HT.out.below (Below.refl w.heap.size w))).mono ?_
  rintro e w1 ⟨r1, rfl, hq1, hk1, hb1⟩
  have HB1 := Lib.hid (Below.trans (Below.refl w.heap.size w) (hb1.mono (Below.size (Below.refl w.heap.size w))))
  have HQ1 := Lib.hid (show QDeep w1 (fun _ => True) r1 (Prod.fst (qT, 0, 0)) from QDeep.more hq1 fun _ _ => trivial)
  obtain ⟨o1, f1, t1, n1, A1, m1, c1, rfl⟩ := agg_open (r := r1)
  obtain ⟨kids1, raws1, e, hk, _, _⟩ := QDeep.open_ HQ1.out
  have e : qT = .mk o1 f1 t1 n1 kids1 := e
  unfold qT at e
  injection e with e1 e2 e3 e4 e5
  subst e1 e2 e3 e4 e5
  have hm := hk.size
  dsimp only [List.length_cons, List.length_nil] at hm
  subst hm
  clear hk
  obtain ⟨ob1, hob1⟩ : ∃ o : Obj, .cells #[.int .i64 11, .int .i64 0, .string (ba []), .int .i64 0, .slice A1 3 c1] 25 = o := ⟨_, rfl⟩
  have HOB1 := Lib.hid hob1
  have HA1 := Lib.hid (show Below w.heap.size w (w1.alloc ob1) from HB1.out.alloc HB1.out.size _)
  clear hq1 hk1 hb1 hob1
  unfold RawQ.val
  dsimp only
  go_wp2_with fail
  rw [HOB1.out]
  refine (HC2.out (w1.alloc ob1) (HT.out.below HA1.out)).mono ?_
  rintro e w2 ⟨r2, rfl, hq2, hk2, hb2⟩
  have HB2 := Lib.hid (Below.trans HA1.out (hb2.mono (Below.size HA1.out)))
  have HQ2 := Lib.hid (show QDeep w2 (fun _ => True) r2 (Prod.fst (noQ, 2, 4)) from QDeep.more hq2 fun _ _ => trivial)
  obtain ⟨o2, f2, t2, n2, A2, m2, c2, rfl⟩ := agg_open (r := r2)
  obtain ⟨ob2, hob2⟩ : ∃ o : Obj, .cells #[.int .i64 o2, .int .i64 f2, .string (ba t2), .int .i64 n2, .slice A2 m2 c2] 25 = o := ⟨_, rfl⟩
  have HOB2 := Lib.hid hob2
  have HA2 := Lib.hid (show Below w.heap.size w (w2.alloc ob2) from HB2.out.alloc HB2.out.size _)
  have HX1 := Lib.hid (show w2.heap[w1.heap.size]? = some ob1 from (hb2.block _ (by simp)).trans (MapKept.heap_alloc w1 ob1).1)
  have HS1 := Lib.hid (show Below w1.heap.size w1 w2 from ((Below.refl w1.heap.size w1).alloc (Nat.le_refl _) ob1).trans (hb2.mono (by rw [World.size_alloc]; omega)))
  clear hq2 hk2 hb2 hob2
  unfold RawQ.val
  dsimp only
  go_wp2_with fail
  rw [HOB2.out]
  refine (HC3.out (w2.alloc ob2) (HT.out.below HA2.out)).mono ?_
  rintro e w3 ⟨r3, rfl, hq3, hk3, hb3⟩
  have HB3 := Lib.hid (Below.trans HA2.out (hb3.mono (Below.size HA2.out)))
  have HQ3 := Lib.hid (show QDeep w3 (fun _ => True) r3 (Prod.fst (noQ, 2, 5)) from QDeep.more hq3 fun _ _ => trivial)
  obtain ⟨o3, f3, t3, n3, A3, m3, c3, rfl⟩ := agg_open (r := r3)
  obtain ⟨ob3, hob3⟩ : ∃ o : Obj, .cells #[.int .i64 o3, .int .i64 f3, .string (ba t3), .int .i64 n3, .slice A3 m3 c3] 25 = o := ⟨_, rfl⟩
  have HOB3 := Lib.hid hob3
  have HA3 := Lib.hid (show Below w.heap.size w (w3.alloc ob3) from HB3.out.alloc HB3.out.size _)
  have HX2 := Lib.hid (show w3.heap[w2.heap.size]? = some ob2 from (hb3.block _ (by simp)).trans (MapKept.heap_alloc w2 ob2).1)
  have HS2 := Lib.hid (show Below w2.heap.size w2 w3 from ((Below.refl w2.heap.size w2).alloc (Nat.le_refl _) ob2).trans (hb3.mono (by rw [World.size_alloc]; omega)))
  clear hq3 hk3 hb3 hob3
  unfold RawQ.val
  dsimp only
  go_wp2_with fail
  rw [HOB3.out]
  refine (HC4.out (w3.alloc ob3) (HT.out.below HA3.out)).mono ?_
  rintro e w4 ⟨r4, rfl, hq4, hk4, hb4⟩
  have HB4 := Lib.hid (Below.trans HA3.out (hb4.mono (Below.size HA3.out)))
  have HQ4 := Lib.hid (show QDeep w4 (fun _ => True) r4 (Prod.fst (.mk 1 0 [] 0 [], 0, 0)) from QDeep.more hq4 fun _ _ => trivial)
  obtain ⟨o4, f4, t4, n4, A4, m4, c4, rfl⟩ := agg_open (r := r4)
  obtain ⟨kids4, raws4, e, hk, _, _⟩ := QDeep.open_ HQ4.out
  have e : (.mk 1 0 [] 0 [] : Qry) = .mk o4 f4 t4 n4 kids4 := e
  injection e with e1 e2 e3 e4 e5
  subst e1 e2 e3 e4 e5
  have hm := hk.size
  dsimp only [List.length_cons, List.length_nil] at hm
  subst hm
  clear hk
  obtain ⟨ob4, hob4⟩ : ∃ o : Obj, .cells #[.int .i64 1, .int .i64 0, .string (ba []), .int .i64 0, .slice A4 0 c4] 25 = o := ⟨_, rfl⟩
  have HOB4 := Lib.hid hob4
  have HA4 := Lib.hid (show Below w.heap.size w (w4.alloc ob4) from HB4.out.alloc HB4.out.size _)
  have HX3 := Lib.hid (show w4.heap[w3.heap.size]? = some ob3 from (hb4.block _ (by simp)).trans (MapKept.heap_alloc w3 ob3).1)
  have HS3 := Lib.hid (show Below w3.heap.size w3 w4 from ((Below.refl w3.heap.size w3).alloc (Nat.le_refl _) ob3).trans (hb4.mono (by rw [World.size_alloc]; omega)))
  clear hq4 hk4 hb4 hob4
  unfold RawQ.val
  dsimp only
  go_wp2_with fail
  rw [HOB4.out]
  refine (HC5.out (w4.alloc ob4) (HT.out.below HA4.out)).mono ?_
  rintro e w5 ⟨r5, rfl, hq5, hk5, hb5⟩
  have HB5 := Lib.hid (Below.trans HA4.out (hb5.mono (Below.size HA4.out)))
  have HQ5 := Lib.hid (show QDeep w5 (fun _ => True) r5 (Prod.fst (rT, 0, 0)) from QDeep.more hq5 fun _ _ => trivial)
  obtain ⟨o5, f5, t5, n5, A5, m5, c5, rfl⟩ := agg_open (r := r5)
  obtain ⟨kids5, raws5, e, hk, _, _⟩ := QDeep.open_ HQ5.out
  have e : rT = .mk o5 f5 t5 n5 kids5 := e
  unfold rT at e
  injection e with e1 e2 e3 e4 e5
  subst e1 e2 e3 e4 e5
  have hm := hk.size
  dsimp only [List.length_cons, List.length_nil] at hm
  subst hm
  clear hk
  obtain ⟨ob5, hob5⟩ : ∃ o : Obj, .cells #[.int .i64 11, .int .i64 0, .string (ba []), .int .i64 0, .slice A5 5 c5] 25 = o := ⟨_, rfl⟩
  have HOB5 := Lib.hid hob5
  have HA5 := Lib.hid (show Below w.heap.size w (w5.alloc ob5) from HB5.out.alloc HB5.out.size _)
  have HX4 := Lib.hid (show w5.heap[w4.heap.size]? = some ob4 from (hb5.block _ (by simp)).trans (MapKept.heap_alloc w4 ob4).1)
  have HS4 := Lib.hid (show Below w4.heap.size w4 w5 from ((Below.refl w4.heap.size w4).alloc (Nat.le_refl _) ob4).trans (hb5.mono (by rw [World.size_alloc]; omega)))
  clear hq5 hk5 hb5 hob5
  unfold RawQ.val
  dsimp only
  go_wp2_with fail
  rw [HOB5.out]
  refine (HC6.out (w5.alloc ob5) (HT.out.below HA5.out)).mono ?_
  rintro e w6 ⟨r6, rfl, hq6, hk6, hb6⟩
  have HB6 := Lib.hid (Below.trans HA5.out (hb6.mono (Below.size HA5.out)))
  have HQ6 := Lib.hid (show QDeep w6 (fun _ => True) r6 (Prod.fst (noQ, 10, 8)) from QDeep.more hq6 fun _ _ => trivial)
  obtain ⟨o6, f6, t6, n6, A6, m6, c6, rfl⟩ := agg_open (r := r6)
  obtain ⟨ob6, hob6⟩ : ∃ o : Obj, .cells #[.int .i64 o6, .int .i64 f6, .string (ba t6), .int .i64 n6, .slice A6 m6 c6] 25 = o := ⟨_, rfl⟩
  have HOB6 := Lib.hid hob6
  have HA6 := Lib.hid (show Below w.heap.size w (w6.alloc ob6) from HB6.out.alloc HB6.out.size _)
  have HX5 := Lib.hid (show w6.heap[w5.heap.size]? = some ob5 from (hb6.block _ (by simp)).trans (MapKept.heap_alloc w5 ob5).1)
  have HS5 := Lib.hid (show Below w5.heap.size w5 w6 from ((Below.refl w5.heap.size w5).alloc (Nat.le_refl _) ob5).trans (hb6.mono (by rw [World.size_alloc]; omega)))
  clear hq6 hk6 hb6 hob6
  unfold RawQ.val
  dsimp only
  have h26 : Below w2.heap.size w2 w6 := ((HS2.out.trans (HS3.out.mono HS2.out.size)).trans (HS4.out.mono (Nat.le_trans HS2.out.size HS3.out.size))).trans (HS5.out.mono (Nat.le_trans (Nat.le_trans HS2.out.size HS3.out.size) HS4.out.size))
  have h16 : Below w1.heap.size w1 w6 := HS1.out.trans (h26.mono HS1.out.size)
  have h46 : Below w4.heap.size w4 w6 := HS4.out.trans (HS5.out.mono HS4.out.size)
  have hq6 : WBox w6 w1.heap.size ⟨11, 0, [], 0, (A1, 3, c1)⟩ := by
    have h1 := HX1.out
    rw [← HOB1.out] at h1
    exact (h26.block _ (heap_lt h1)).trans h1
  have ha6 : WBox w6 w4.heap.size ⟨1, 0, [], 0, (A4, 0, c4)⟩ := by
    have h1 := HX4.out
    rw [← HOB4.out] at h1
    exact (HS5.out.block _ (heap_lt h1)).trans h1
  have hr6 : WBox w6 w5.heap.size ⟨11, 0, [], 0, (A5, 5, c5)⟩ := by
    have h1 := HX5.out
    rw [← HOB5.out] at h1
    exact h1
  have hqd6 : QDeep w6 (fun _ => True) ⟨11, 0, [], 0, (A1, 3, c1)⟩ qT := QDeep.bel HQ1.out h16
  have hrd6 : QDeep w6 (fun _ => True) ⟨11, 0, [], 0, (A5, 5, c5)⟩ rT := QDeep.bel HQ5.out HS5.out
  obtain ⟨ad, ad1, d1, ad2, d2, rfl, FQ⟩ := sml_q hq6 hqd6
  obtain ⟨bd, bd1, b1, rfl, FR⟩ := sml_r hr6 hrd6
  have HFQ := Lib.hid FQ
  have HFR := Lib.hid FR
  have HA6 := Lib.hid ha6
  have HQ6 := Lib.hid hqd6
  have HR6 := Lib.hid hrd6
  have HT6 := Lib.hid (HT.out.below HB6.out)
  have HP6 := Lib.hid (HP.out.below HB6.out)
  obtain ⟨qb0, qb1, qb2, qb3, qb4, qk00, qk01, qk02, qk10, qk14, qk20, qk23, qo0, qo1, qo2, qo3, qo4, qy0, qy2⟩ := FQ
  obtain ⟨rb0, rb1, rb2, rb3, rb4, rk00, rk02, rk10, rk13, rk20, rk21, rk22, rk34, rk43, rn0⟩ := FR
  obtain ⟨s0, _, _, _, _, _⟩ := ha6.cells
  have l1 := heap_lt hq6
  have l2 := heap_lt ha6
  have l3 := heap_lt hr6
  have l4 := block_lt_of_cell qk00
  have l5 := block_lt_of_cell qo0
  have l6 := block_lt_of_cell qy0
  have l7 := block_lt_of_cell rk00
  have l8 := block_lt_of_cell rn0
  clear h26 h16 h46 hq6 hr6 ha6 hqd6 hrd6 HC1 HC2 HC3 HC4 HC5 HC6 HX1 HX2 HX3 HX4 HX5
  go_wp2_with fail
  rw [HOB6.out]
  obtain ⟨obo, hobo⟩ : ∃ o : Obj, .cells #[.int .i64 12, .int .i64 0, .string ⟨#[]⟩, .int .i64 0, .slice (some ad2) 2 d2] 25 = o := ⟨_, rfl⟩
  have HOO := Lib.hid hobo
  rw [hobo]
  have h67 : Below w6.heap.size w6 ((w6.alloc ob6).alloc obo) := ((Below.refl _ _).alloc (Nat.le_refl _) _).alloc (by simp) _
  have hob : WBox ((w6.alloc ob6).alloc obo) (w6.heap.size + 1) ⟨12, 0, [], 0, (some ad2, 2, d2)⟩ := by
    have h := (MapKept.heap_alloc (w6.alloc ob6) obo).1
    rw [World.size_alloc, ← hobo] at h
    rw [← hobo]
    exact h
  have HW := Lib.hid (words_qT _ ⟨11, 0, [], 0, (some ad, 3, c1)⟩ (HQ6.out.bel h67) (HT6.out.below h67))
  have H67 := Lib.hid h67
  have HOX := Lib.hid hob
  clear h67 hob hobo
  refine HW.out.mono ?_
  rintro e w7 ⟨v7, rfl, hv7, hb7⟩
  have h7 : Below w6.heap.size w6 w7 := H67.out.trans (hb7.mono H67.out.size)
  have H7 := Lib.hid h7
  have HFQ7 := Lib.hid (HFQ.out.below h7)
  have HFR7 := Lib.hid (HFR.out.below h7)
  have hox : WBox w7 (w6.heap.size + 1) ⟨12, 0, [], 0, (some ad2, 2, d2)⟩ := (hb7.block _ (by simp)).trans HOX.out
  have hax : WBox w7 w4.heap.size ⟨1, 0, [], 0, (A4, 0, c4)⟩ := (h7.block _ l2).trans HA6.out
  obtain ⟨A7, c7, rfl, hc1, hc2, hst⟩ := hv7.strs
  have hrun := hst.2
  obtain ⟨ad7, rfl, c70⟩ : ∃ ad7, A7 = some ad7 ∧ w7.cell? ad7 = some (.string ⟨#[97, 110, 110]⟩) := by
    rcases hrun with h | ⟨ad7, e, _, hcell⟩
    · exact absurd h (by simp [sv])
    · refine ⟨ad7, e, ?_⟩
      have h := hcell 0 (.string (ba [97, 110, 110])) rfl
      have e0 : ad7.add 0 = ad7 := by unfold Addr.add; rfl
      rw [e0] at h
      exact h
  have HC7 := Lib.hid c70
  have HQ7 := Lib.hid (HQ6.out.bel h7)
  have HR7 := Lib.hid (HR6.out.bel h7)
  have HT7 := Lib.hid (HT6.out.below h7)
  have HP7 := Lib.hid (HP6.out.below h7)
  have HAX := Lib.hid hax
  clear qb0 qb1 qb2 qb3 qb4 qk00 qk01 qk02 qk10 qk14 qk20 qk23 qo0 qo1 qo2 qo3 qo4 qy0 qy2 rb0 rb1 rb2 rb3 rb4 rk00 rk02 rk10 rk13 rk20 rk21 rk22 rk34 rk43 rn0 s0
  obtain ⟨qb0, qb1, qb2, qb3, qb4, qk00, qk01, qk02, qk10, qk14, qk20, qk23, qo0, qo1, qo2, qo3, qo4, qy0, qy2⟩ := HFQ7.out
  obtain ⟨rb0, rb1, rb2, rb3, rb4, rk00, rk02, rk10, rk13, rk20, rk21, rk22, rk34, rk43, rn0⟩ := HFR7.out
  obtain ⟨s0, _, _, _, _, _⟩ := hax.cells
  obtain ⟨u0, _, _, _, u4, _⟩ := hox.cells
  have HB7 := Lib.hid (HB6.out.trans (h7.mono HB6.out.size))
  clear hb7 h7 hox hax hv7 hst hrun hc1 hc2 HW
  go_wp2_with fail
  refine (qwrite_any qT txtQ write_qT ⟨11, 0, [], 0, (some ad, 3, c1)⟩ w7 HQ7.out HT7.out HP7.out).mono ?_
  rintro e w8 ⟨rfl, hb8⟩
  rw [show ba txtQ = ⟨#[102, 114, 111, 109, 58, 97, 110, 110, 32, 45, 40, 120, 32, 79, 82, 32, 34, 121, 32, 122, 34, 41, 32, 108, 97, 114, 103, 101, 114, 58, 50, 75]⟩ from rfl]
  clear qb0 qb1 qb2 qb3 qb4 qk00 qk01 qk02 qk10 qk14 qk20 qk23 qo0 qo1 qo2 qo3 qo4 qy0 qy2 rb0 rb1 rb2 rb3 rb4 rk00 rk02 rk10 rk13 rk20 rk21 rk22 rk34 rk43 rn0 s0 u0 u4 c70
  have HFQ8 := Lib.hid (HFQ7.out.below hb8)
  have HFR8 := Lib.hid (HFR7.out.below hb8)
  have HQ8 := Lib.hid (HQ7.out.bel hb8)
  have HR8 := Lib.hid (HR7.out.bel hb8)
  have HT8 := Lib.hid (HT7.out.below hb8)
  have HP8 := Lib.hid (HP7.out.below hb8)
  have HB8 := Lib.hid (HB7.out.trans (hb8.mono HB7.out.size))
  have c70 := cell_below HC7.out hb8
  have HC8 := Lib.hid c70
  obtain ⟨qb0, qb1, qb2, qb3, qb4, _, _, _, _, _, _, _, _, _, _, _, _, _, _⟩ := HFQ8.out
  obtain ⟨rb0, rb1, rb2, rb3, rb4, _, _, _, _, _, _, _, _, _, _⟩ := HFR8.out
  clear hb8
  go_wp2_with fail
  refine (qwrite_any rT txtR write_rT ⟨11, 0, [], 0, (some bd, 5, c5)⟩ w8 HR8.out HT8.out HP8.out).mono ?_
  rintro e w9 ⟨rfl, hb9⟩
  rw [show ba txtR = ⟨#[105, 115, 58, 115, 101, 101, 110, 32, 98, 101, 102, 111, 114, 101, 58, 50, 48, 48, 48, 45, 48, 49, 45, 48, 50, 32, 116, 111, 58, 34, 97, 98, 32, 99, 34, 32, 45, 100, 42, 32, 105, 110, 58, 55]⟩ from rfl]
  clear c70 qb0 rb0 qb1 rb1 qb2 rb2 qb3 rb3 qb4 rb4
  have HFQ9 := Lib.hid (HFQ8.out.below hb9)
  have HFR9 := Lib.hid (HFR8.out.below hb9)
  have HQ9 := Lib.hid (HQ8.out.bel hb9)
  have HR9 := Lib.hid (HR8.out.bel hb9)
  have HT9 := Lib.hid (HT8.out.below hb9)
  have HP9 := Lib.hid (HP8.out.below hb9)
  have HB9 := Lib.hid (HB8.out.trans (hb9.mono HB8.out.size))
  have c70 := cell_below HC8.out hb9
  have HC9 := Lib.hid c70
  obtain ⟨qb0, qb1, qb2, qb3, qb4, _, _, _, _, _, _, _, _, _, _, _, _, _, _⟩ := HFQ9.out
  obtain ⟨rb0, rb1, rb2, rb3, rb4, _, _, _, _, _, _, _, _, _, _⟩ := HFR9.out
  clear hb9
  go_wp2_with fail
  refine (qright_any qT (some txtQ) (by decide) write_qT ⟨11, 0, [], 0, (some ad, 3, c1)⟩ w9 HQ9.out HT9.out HP9.out).mono ?_
  rintro e w10 ⟨rfl, hb10⟩
  simp only [Option.isSome_some]
  clear c70 qb0 rb0 qb1 rb1 qb2 rb2 qb3 rb3 qb4 rb4
  have HFQ10 := Lib.hid (HFQ9.out.below hb10)
  have HFR10 := Lib.hid (HFR9.out.below hb10)
  have HQ10 := Lib.hid (HQ9.out.bel hb10)
  have HR10 := Lib.hid (HR9.out.bel hb10)
  have HT10 := Lib.hid (HT9.out.below hb10)
  have HP10 := Lib.hid (HP9.out.below hb10)
  have HB10 := Lib.hid (HB9.out.trans (hb10.mono HB9.out.size))
  have c70 := cell_below HC9.out hb10
  have HC10 := Lib.hid c70
  obtain ⟨qb0, qb1, qb2, qb3, qb4, _, _, _, _, _, _, _, _, _, _, _, _, _, _⟩ := HFQ10.out
  obtain ⟨rb0, rb1, rb2, rb3, rb4, _, _, _, _, _, _, _, _, _, _⟩ := HFR10.out
  clear hb10
  go_wp2_with fail
  refine (qright_any (.mk 2 0 [97, 32, 98] 0 []) none (by decide) write_bad ⟨2, 0, [97, 32, 98], 0, (none, 0, 0)⟩ w10 (QDeep.leaf _ _ 2 0 [97, 32, 98] 0) HT10.out HP10.out).mono ?_
  rintro e w11 ⟨rfl, hb11⟩
  simp only [Option.isSome_none]
  clear c70 qb0 rb0 qb1 rb1 qb2 rb2 qb3 rb3 qb4 rb4
  have HFQ11 := Lib.hid (HFQ10.out.below hb11)
  have HFR11 := Lib.hid (HFR10.out.below hb11)
  have HQ11 := Lib.hid (HQ10.out.bel hb11)
  have HR11 := Lib.hid (HR10.out.bel hb11)
  have HT11 := Lib.hid (HT10.out.below hb11)
  have HP11 := Lib.hid (HP10.out.below hb11)
  have HB11 := Lib.hid (HB10.out.trans (hb11.mono HB10.out.size))
  have c70 := cell_below HC10.out hb11
  have HC11 := Lib.hid c70
  obtain ⟨qb0, qb1, qb2, qb3, qb4, _, _, _, _, _, _, _, _, _, _, _, _, _, _⟩ := HFQ11.out
  obtain ⟨rb0, rb1, rb2, rb3, rb4, _, _, _, _, _, _, _, _, _, _⟩ := HFR11.out
  clear hb11
  go_wp2_with fail
  refine (qsame_any qT w11 ⟨11, 0, [], 0, (some ad, 3, c1)⟩ ⟨11, 0, [], 0, (some bd, 5, c5)⟩ rT HQ11.out HR11.out).mono ?_
  rintro e w12 ⟨rfl, hb12⟩
  rw [eqQ_false qT_ne]
  have HB12 := Lib.hid (HB11.out.trans (hb12.mono HB11.out.size))
  clear c70 qb0 rb0 qb1 rb1 qb2 rb2 qb3 rb3 qb4 rb4 hb12
  go_wp2
  go_ret
  exact ⟨rfl, HB12.out⟩
end Go.Proofs.YtomcdhmcjndioaaGreatDoor
