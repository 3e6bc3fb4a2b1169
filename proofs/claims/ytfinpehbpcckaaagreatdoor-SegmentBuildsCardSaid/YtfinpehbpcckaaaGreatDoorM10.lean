/- Layer 33: the program's Or. Layer 33: the program's Next. Layer 34: the contract of listed. Layer 32: a row of words of the call's own, and append of one word. strings.Builder: a rune written. -/
import Derived.Deep.RegionLaw
import Derived.Lib.RuneBytes
import Derived.Test.YtfinpehbpcckaaaGreatDoorM09
import Derived.Test.YtfinpehbpcckaaaGreatDoorM05
import Derived.Test.YtfinpehbpcckaaaGreatDoorM08
import Derived.Test.YtfinpehbpcckaaaGreatDoorM02
section
namespace Go.Proofs.YtfinpehbpcckaaaGreatDoor
open Go.RowKit
set_option linter.unusedVariables false

/-- What a call that adds a posting leaves: the row at block g has it. -/
def AddPost (w : World) (g : Nat) (ps : List (Post × Value)) (p : Post) (r : Ending) (w' : World) : Prop := r = .returned (.tuple #[]) ∧ ∃ v' u, w'.heap[g]? = some (.cells #[v'] 36 (0, 0)) ∧ OwnPosts w' (g + 1) v' (ps ++ [(p, u)]) ∧ Off (fun k => g ≤ k) w w'
theorem add_post {w w3 : World} {g : Nat} {v v' u : Value} {ps : List (Post × Value)} {p : Post} (hb : Below w.heap.size w w3) {w8 : World} (hbox : w.heap[g]? = some (.cells #[v] 36 (0, 0))) (hown : OwnPosts w (g + 1) v ps) (h1 : OwnPosts w8 (g + 1) v' (ps ++ [(p, u)])) (h2 : w3.grownBy w8 v.ownBlock) :
    w8.heap[g]? = some (.cells #[v] 36 (0, 0)) ∧ (w8.setCell ⟨g, 0, none⟩ v').heap[g]? = some (.cells #[v'] 36 (0, 0)) ∧ OwnPosts (w8.setCell ⟨g, 0, none⟩ v') (g + 1) v' (ps ++ [(p, u)]) ∧ Off (fun k => g ≤ k) w (w8.setCell ⟨g, 0, none⟩ v') := by
  have h3 : w8.heap[g]? = some (.cells #[v] 36 (0, 0)) := ((h2.block g (by have := heap_lt hbox; have := hb.size; omega) fun e => by have := (hown.row.lt g e.symm).1; omega).trans (hb.block g (heap_lt hbox))).trans hbox
  have hna := h1.notAt h3 (by decide) (fun j i e => by
    match j, e with
    | 0, e => simp at e; subst e; exact absurd h1.row.1 (by
        intro _
        rcases hown.row.2 with ⟨e, _⟩ | ⟨_, _, _, e, _⟩ <;> cases e)
    | j + 1, e => simp at e)
  refine ⟨h3, heap_setCell_same w8 g 0 _ 36 _ h3, h1.off ((Off.refl (· = g) w8).setCell (p := ⟨g, 0, none⟩) (.inl rfl) v') (fun b e eb => hna.1 b e eb) (fun q hq hne ad n c e eb => hna.2 q hq hne ad n c e eb), ?_⟩
  exact (((Off.refl (fun k => g ≤ k) w).trans (Off.of_below hb fun k hk hle => absurd hle (by omega))).grown h2 fun k e => .inl (by have := (hown.row.lt k e).1; omega)).setCell (p := ⟨g, 0, none⟩) (.inl (Nat.le_refl _)) _
theorem held_three {w W W' : World} {A0 A1 A2 : Addr} {v0 v1 v2 : Value} (h0 : A0.block < w.heap.size) (h1 : A1.block < w.heap.size) (h2 : A2.block < w.heap.size) (c : W.cell? A0 = some v0 ∧ W.cell? A1 = some v1 ∧ W.cell? A2 = some v2 ∧ Hid (Below w.heap.size w W)) (h : Below W.heap.size W W') :
    W'.cell? A0 = some v0 ∧ W'.cell? A1 = some v1 ∧ W'.cell? A2 = some v2 ∧ Hid (Below w.heap.size w W') := by
  have hs := c.2.2.2.out.size
  exact ⟨(h.cell (by omega)).trans c.1, (h.cell (by omega)).trans c.2.1, (h.cell (by omega)).trans c.2.2.1, c.2.2.2.out.trans (h.mono hs)⟩
/-- The places of a posting that a call has just handed back, apart from an older row. -/
theorem back_places {w w1 : World} {B : Nat} {v u : Value} {ps : List (Post × Value)} {p : Post} (hown : OwnPosts w B v ps) (hd : -9223372036854775808 ≤ p.doc ∧ p.doc ≤ 9223372036854775807) (hv : OwnInts w1 w.heap.size u p.places) (hb : Below w.heap.size w w1) : ∃ X c, u = .slice X p.places.length c ∧ PlacesIn w1 v.ownBlock (p, .slice X p.places.length c) := by
  obtain ⟨X, c, rfl, h1, h2, h3⟩ := hv.ints
  refine ⟨X, c, rfl, X, p.places.length, c, rfl, h1, h2, hd, h3, fun hne ad e1 e2 => ?_⟩
  have hpos : 0 < p.places.length := List.length_pos_iff.2 hne
  obtain ⟨g, cap, e3, -, -⟩ := hv.1.form hpos
  injection e3 with e3
  have h5 := (hv.1.lt g (by rw [e3]; rfl)).1
  rw [e1] at e3
  injection e3 with e3
  subst e3
  have h6 := (hown.row.lt _ e2).2
  exact absurd h6 (by show ¬ g < w.heap.size; omega)

theorem held_five {w W W' : World} {A0 A1 A2 A3 A4 : Addr} {v0 v1 v2 v3 v4 : Value} (h0 : A0.block < w.heap.size) (h1 : A1.block < w.heap.size) (h2 : A2.block < w.heap.size) (h3 : A3.block < w.heap.size) (h4 : A4.block < w.heap.size) (c : W.cell? A0 = some v0 ∧ W.cell? A1 = some v1 ∧ W.cell? A2 = some v2 ∧ W.cell? A3 = some v3 ∧ W.cell? A4 = some v4 ∧ Hid (Below w.heap.size w W)) (h : Below W.heap.size W W') :
    W'.cell? A0 = some v0 ∧ W'.cell? A1 = some v1 ∧ W'.cell? A2 = some v2 ∧ W'.cell? A3 = some v3 ∧ W'.cell? A4 = some v4 ∧ Hid (Below w.heap.size w W') := by
  have hs := c.2.2.2.2.2.out.size
  exact ⟨(h.cell (by omega)).trans c.1, (h.cell (by omega)).trans c.2.1, (h.cell (by omega)).trans c.2.2.1, (h.cell (by omega)).trans c.2.2.2.1, (h.cell (by omega)).trans c.2.2.2.2.1, c.2.2.2.2.2.out.trans (h.mono hs)⟩
set_option maxRecDepth 100000 in
set_option maxHeartbeats 4000000 in
theorem or1_right (g : Nat) (q : Post) (v : Value) (ps : List (Post × Value)) (bd : Addr) (w : World) (hq : PostAt w w.heap.size bd q) (hx : q.places.length ≤ 1000000000000)
    (hbox : w.heap[g]? = some (.cells #[v] 36 (0, 0))) (hown : OwnPosts w (g + 1) v ps) (hlen : ps.length ≤ 1000000000) :
    Calls Tryz.prog 79 #[.pointer none, .pointer (some bd), .pointer (some ⟨g, 0, none⟩)] w (AddPost w g ps q) := by
  obtain ⟨Y, ny, cy, hbb, c0, c1, hy1, hy2, hd, hI⟩ := hq
  have HBOX := Lib.hid hbox
  have HOWN := Lib.hid hown
  obtain ⟨A, c, rfl, -, -, -⟩ := hown.posts
  have hgl : g < w.heap.size := heap_lt hbox
  have d0 : w.cell? ⟨g, 0, none⟩ = some (.slice A ps.length c) := by simp [World.cell?, hbox]
  rw [hI.len] at hx
  have HCP := Lib.hid (copied_any q Y ny cy w.drew (show Ints w.drew w.drew.heap.size Y ny q.places from hI) hx)
  have HD := Lib.hid hd
  have HS0 : Hid (Below w.heap.size w w.drew) := (Below.refl _ _).drew
  have HLEN := Lib.hid hlen
  have hs0 : g + 1 ≤ w.heap.size := hgl
  clear hbox hown hI hy1 hy2 hd hlen hx
  go_enter Tryz.func79, Tryz.ntmps79
  go_wp2
  go_region_law
    (first
      | (go_simp; go_at_call 80; refine HCP.out.mono ?_; rintro e w1 ⟨u, rfl, hu, hbel⟩; (
        obtain ⟨X, cx, rfl, hpl⟩ := back_places HOWN.out HD.out hu (HS0.out.trans hbel)
        have HPL := Lib.hid hpl
        have HO1 := Lib.hid (HOWN.out.below (w' := w1) (HS0.out.trans hbel))
        have HB1 := Lib.hid (HS0.out.trans hbel)
        have hs1 : g + 1 ≤ w1.heap.size := Nat.le_trans hs0 hbel.size
        have e9 : w1.cell? ⟨g, 0, none⟩ = some (.slice A ps.length c) := (HB1.out.cell (p := ⟨g, 0, none⟩) hgl).trans d0
        have e8 : (w1.alloc (.cells #[.int .i64 q.doc, .slice X q.places.length cx] 52)).cell? ⟨g, 0, none⟩ = some (.slice A ps.length c) := (World.cell?_of_block (a := ⟨g, 0, none⟩) (heap_alloc_old w1 _ hs1)).trans e9
        clear hu hpl))
      | (refine step_pushPost HO1.out hs1 HPL.out HLEN.out rfl (.tmp 18) (.tmp 23) 1 rfl rfl rfl ?_; intro v' w8 hown8 hg8; (
        obtain ⟨A8, c8, rfl, -, -, -⟩ := hown8.posts
        obtain ⟨k3, k4, k5, k6⟩ := add_post HB1.out HBOX.out HOWN.out hown8 hg8
        have e1 : w8.cell? ⟨g, 0, none⟩ = some (.slice A ps.length c) := by simp [World.cell?, k3]
        have ef : w8.frozen? ⟨g, 0, none⟩ = false := by simp [World.frozen?, k3]
        have HF := Lib.hid (And.intro k4 (And.intro k5 k6))
        clear k3 k4 k5 k6 hown8 hg8))
      | fail)
  all_goals
    go_wp2
    go_end0
    have hf := HF.out
    simp only [List.length_append, List.length_cons, List.length_nil, Nat.zero_add] at hf
    exact ⟨rfl, _, _, hf.1, hf.2.1, hf.2.2⟩
set_option maxRecDepth 100000 in
set_option maxHeartbeats 4000000 in
theorem or1_left (g : Nat) (q : Post) (v : Value) (ps : List (Post × Value)) (bd : Addr) (w : World) (hq : PostAt w w.heap.size bd q) (hx : q.places.length ≤ 1000000000000)
    (hbox : w.heap[g]? = some (.cells #[v] 36 (0, 0))) (hown : OwnPosts w (g + 1) v ps) (hlen : ps.length ≤ 1000000000) :
    Calls Tryz.prog 79 #[.pointer (some bd), .pointer none, .pointer (some ⟨g, 0, none⟩)] w (AddPost w g ps q) := by
  obtain ⟨Y, ny, cy, hbb, c0, c1, hy1, hy2, hd, hI⟩ := hq
  have HBOX := Lib.hid hbox
  have HOWN := Lib.hid hown
  obtain ⟨A, c, rfl, -, -, -⟩ := hown.posts
  have hgl : g < w.heap.size := heap_lt hbox
  have d0 : w.cell? ⟨g, 0, none⟩ = some (.slice A ps.length c) := by simp [World.cell?, hbox]
  rw [hI.len] at hx
  have HCP := Lib.hid (copied_any q Y ny cy w.drew (show Ints w.drew w.drew.heap.size Y ny q.places from hI) hx)
  have HD := Lib.hid hd
  have HS0 : Hid (Below w.heap.size w w.drew) := (Below.refl _ _).drew
  have HLEN := Lib.hid hlen
  have hs0 : g + 1 ≤ w.heap.size := hgl
  clear hbox hown hI hy1 hy2 hd hlen hx
  go_enter Tryz.func79, Tryz.ntmps79
  go_wp2
  go_region_law
    (first
      | (go_simp; go_at_call 80; refine HCP.out.mono ?_; rintro e w1 ⟨u, rfl, hu, hbel⟩; (
        obtain ⟨X, cx, rfl, hpl⟩ := back_places HOWN.out HD.out hu (HS0.out.trans hbel)
        have HPL := Lib.hid hpl
        have HO1 := Lib.hid (HOWN.out.below (w' := w1) (HS0.out.trans hbel))
        have HB1 := Lib.hid (HS0.out.trans hbel)
        have hs1 : g + 1 ≤ w1.heap.size := Nat.le_trans hs0 hbel.size
        have e9 : w1.cell? ⟨g, 0, none⟩ = some (.slice A ps.length c) := (HB1.out.cell (p := ⟨g, 0, none⟩) hgl).trans d0
        have e8 : (w1.alloc (.cells #[.int .i64 q.doc, .slice X q.places.length cx] 52)).cell? ⟨g, 0, none⟩ = some (.slice A ps.length c) := (World.cell?_of_block (a := ⟨g, 0, none⟩) (heap_alloc_old w1 _ hs1)).trans e9
        clear hu hpl))
      | (refine step_pushPost HO1.out hs1 HPL.out HLEN.out rfl (.tmp 28) (.tmp 33) 1 rfl rfl rfl ?_; intro v' w8 hown8 hg8; (
        obtain ⟨A8, c8, rfl, -, -, -⟩ := hown8.posts
        obtain ⟨k3, k4, k5, k6⟩ := add_post HB1.out HBOX.out HOWN.out hown8 hg8
        have e1 : w8.cell? ⟨g, 0, none⟩ = some (.slice A ps.length c) := by simp [World.cell?, k3]
        have ef : w8.frozen? ⟨g, 0, none⟩ = false := by simp [World.frozen?, k3]
        have HF := Lib.hid (And.intro k4 (And.intro k5 k6))
        clear k3 k4 k5 k6 hown8 hg8))
      | fail)
  all_goals
    go_wp2
    go_end0
    have hf := HF.out
    simp only [List.length_append, List.length_cons, List.length_nil, Nat.zero_add] at hf
    exact ⟨rfl, _, _, hf.1, hf.2.1, hf.2.2⟩
set_option maxRecDepth 100000 in
set_option maxHeartbeats 4000000 in
theorem or1_both (g : Nat) (p q : Post) (v : Value) (ps : List (Post × Value)) (ad bd : Addr) (w : World) (hp : PostAt w w.heap.size ad p) (hq : PostAt w w.heap.size bd q) (hl : p.places.length + q.places.length < 1099511627776) (hpp : p.places.Pairwise (· < ·)) (hqq : q.places.Pairwise (· < ·))
    (hbox : w.heap[g]? = some (.cells #[v] 36 (0, 0))) (hown : OwnPosts w (g + 1) v ps) (hlen : ps.length ≤ 1000000000) :
    Calls Tryz.prog 79 #[.pointer (some ad), .pointer (some bd), .pointer (some ⟨g, 0, none⟩)] w (AddPost w g ps ⟨p.doc, unionP p.places q.places⟩) := by
  obtain ⟨X, nx, cx, hab, a0, a1, hx1, hx2, hdp, hIp⟩ := hp
  obtain ⟨Y, ny, cy, hbb, c0, c1, hy1, hy2, hdq, hIq⟩ := hq
  have HBOX := Lib.hid hbox
  have HOWN := Lib.hid hown
  obtain ⟨A, c, rfl, -, -, -⟩ := hown.posts
  have hgl : g < w.heap.size := heap_lt hbox
  have d0 : w.cell? ⟨g, 0, none⟩ = some (.slice A ps.length c) := by simp [World.cell?, hbox]
  rw [hIp.len, hIq.len] at hl
  have HCP := Lib.hid (union_any p q X Y nx cx ny cy w.drew (show Ints w.drew w.drew.heap.size X nx p.places from hIp) (show Ints w.drew w.drew.heap.size Y ny q.places from hIq) hx1 hx2 hy1 hy2 hpp hqq hl)
  have HD := Lib.hid hdp
  have HS0 : Hid (Below w.heap.size w w.drew) := (Below.refl _ _).drew
  have HLEN := Lib.hid hlen
  have hs0 : g + 1 ≤ w.heap.size := hgl
  clear hbox hown hIp hIq hx1 hx2 hy1 hy2 hdp hdq hlen hl hpp hqq
  go_enter Tryz.func79, Tryz.ntmps79
  go_wp2
  go_region_law
    (first
      | (go_simp; go_at_call 81; refine HCP.out.mono ?_; rintro e w1 ⟨u, rfl, hu, hbel⟩; (
        obtain ⟨X', cx', rfl, hpl⟩ := back_places (p := ⟨p.doc, unionP p.places q.places⟩) HOWN.out HD.out hu (HS0.out.trans hbel)
        have HPL := Lib.hid hpl
        have HO1 := Lib.hid (HOWN.out.below (w' := w1) (HS0.out.trans hbel))
        have HB1 := Lib.hid (HS0.out.trans hbel)
        have hs1 : g + 1 ≤ w1.heap.size := Nat.le_trans hs0 hbel.size
        have e9 : w1.cell? ⟨g, 0, none⟩ = some (.slice A ps.length c) := (HB1.out.cell (p := ⟨g, 0, none⟩) hgl).trans d0
        have e8 : (w1.alloc (.cells #[.int .i64 p.doc, .slice X' (unionP p.places q.places).length cx'] 52)).cell? ⟨g, 0, none⟩ = some (.slice A ps.length c) := (World.cell?_of_block (a := ⟨g, 0, none⟩) (heap_alloc_old w1 _ hs1)).trans e9
        clear hu hpl))
      | (refine step_pushPost (p := ⟨p.doc, unionP p.places q.places⟩) HO1.out hs1 HPL.out HLEN.out rfl (.tmp 5) (.tmp 13) 1 rfl rfl rfl ?_; intro v' w8 hown8 hg8; (
        obtain ⟨A8, c8, rfl, -, -, -⟩ := hown8.posts
        obtain ⟨k3, k4, k5, k6⟩ := add_post HB1.out HBOX.out HOWN.out hown8 hg8
        have e1 : w8.cell? ⟨g, 0, none⟩ = some (.slice A ps.length c) := by simp [World.cell?, k3]
        have ef : w8.frozen? ⟨g, 0, none⟩ = false := by simp [World.frozen?, k3]
        have HF := Lib.hid (And.intro k4 (And.intro k5 k6))
        clear k3 k4 k5 k6 hown8 hg8))
      | fail)
  all_goals
    go_wp2
    go_end0
    have hf := HF.out
    simp only [List.length_append, List.length_cons, List.length_nil, Nat.zero_add] at hf
    exact ⟨rfl, _, _, hf.1, hf.2.1, hf.2.2⟩

/-- What Or's loop holds. -/
def OrInv (w0 : World) (g : Nat) (done : List (Option Post × Option Post)) (w : World) : Prop := Below g w0 w ∧ ∃ v ps, w.heap[g]? = some (.cells #[v] 36 (0, 0)) ∧ OwnPosts w (g + 1) v ps ∧ ps.map (·.1) = done.map orEv
theorem callable_or1 : Callable 79 := callable_of Tryz.func79 (by kernel_rfl) (by kernel_rfl)
theorem or_sees {w0 : World} {B g : Nat} {a b : List Post} (hB : B ≤ w0.heap.size) (hg : B ≤ g) (hgw : g ≤ w0.heap.size) (ha : Fine a) (hb : Fine b) (hl : a.length + b.length ≤ 1000000000) (hla : ∀ p, p ∈ a → p.places.length ≤ 100000000000) (hlb : ∀ p, p ∈ b → p.places.length ≤ 100000000000) :
    Sees (PostPtr B) (evs Post.doc a b) (OrInv w0 g) 79 #[.pointer (some ⟨g, 0, none⟩)] B w0 := by
  refine ⟨fun done e rest w x y hE hI hx hy => ?_, callable_or1, fun done w w' hI hb => ?_, fun done w hI => hI.1.mono hg, hB⟩
  · obtain ⟨hbl, v, ps, hbox, hown, hps⟩ := hI
    have hlen : ps.length ≤ 1000000000 := by
      have h1 := evs_len (key := Post.doc) a b
      rw [← hE] at h1
      have h2 : ps.length = done.length := by have := congrArg List.length hps; simpa using this
      simp at h1
      omega
    have hev := evs_ok (key := Post.doc) a b ha.docs hb.docs e (by rw [← hE]; simp)
    have hBs : B ≤ w.heap.size := by have := hbl.size; omega
    have fin : ∀ r w', AddPost w g ps (orEv e) r w' → (∃ v, r = .returned v) ∧ OrInv w0 g (done ++ [e]) w' := by
      rintro r w' ⟨rfl, v', u, h1, h2, h3⟩
      refine ⟨⟨_, rfl⟩, hbl.trans (h3.below (B := g) ?_ fun k hk => hk), v', _, h1, h2, ?_⟩
      · have := hbl.size; omega
      · rw [List.map_append, List.map_append, hps]; rfl
    obtain ⟨e1, e2⟩ := e
    cases e1 with
    | none => cases e2 with
      | none => exact hev.elim
      | some q =>
        have hx' : x = .pointer none := hx
        obtain ⟨bd, rfl, hq⟩ := hy
        subst hx'
        exact (or1_right g q v ps bd w (hq.more hBs) (by have := hlb q hev.1; omega) hbox hown hlen).mono fin
    | some p => cases e2 with
      | none =>
        have hy' : y = .pointer none := hy
        obtain ⟨ad, rfl, hp⟩ := hx
        subst hy'
        exact (or1_left g p v ps ad w (hp.more hBs) (by have := hla p hev.1; omega) hbox hown hlen).mono fin
      | some q =>
        obtain ⟨ad, rfl, hp⟩ := hx
        obtain ⟨bd, rfl, hq⟩ := hy
        exact (or1_both g p q v ps ad bd w (hp.more hBs) (hq.more hBs) (by have := hla p hev.1; have := hlb q hev.2.1; omega) (ha.rows p hev.1) (hb.rows q hev.2.1) hbox hown hlen).mono fin
  · obtain ⟨hbl, v, ps, hbox, hown, hps⟩ := hI
    exact ⟨hbl.trans (hb.mono (by have := hbl.size; omega)), v, ps, (hb.block g (heap_lt hbox)).trans hbox, hown.below hb, hps⟩
theorem docs_of {R : World → Prop} (va vb vf : Value) (w : World) (h : Calls Tryz.prog 112 #[va, vb, .func (.func 113) #[] #[], vf] w fun e w' => e = .returned (.tuple #[]) ∧ R w') :
    Calls Tryz.prog 78 #[va, vb, vf] w fun e w' => e = .returned (.tuple #[]) ∧ R w' := by
  have H := Lib.hid h
  clear h
  go_enter Tryz.func78, Tryz.ntmps78
  go_wp2_with fail
  refine H.out.mono ?_
  rintro e w1 ⟨rfl, hr⟩
  have HR := Lib.hid hr
  clear hr
  go_wp2
  go_end0
  exact ⟨rfl, HR.out⟩
/-- A row of postings handed back. -/
def PostsBack (w : World) (l : List Post) (e : Ending) (w' : World) : Prop := ∃ v ps, e = .returned v ∧ OwnPosts w' w.heap.size v ps ∧ ps.map (·.1) = l ∧ Below w.heap.size w w'
theorem OwnPosts.more {w : World} {B B' : Nat} {v : Value} {ps : List (Post × Value)} (h : OwnPosts w B v ps) (hB : B' ≤ B) : OwnPosts w B' v ps := by
  obtain ⟨⟨h0, h1⟩, h2⟩ := h
  refine ⟨⟨h0, ?_⟩, h2⟩
  rcases h1 with h1 | ⟨g, cap, cur, e, hb, r⟩
  · exact .inl h1
  · exact .inr ⟨g, cap, cur, e, by omega, r⟩
set_option maxRecDepth 100000 in
set_option maxHeartbeats 1000000 in
theorem or_any (A A2 : Option Addr) (n m c d : Nat) (a b : List Post) (w : World) (ha : Posts w w.heap.size A n a) (hb : Posts w w.heap.size A2 m b) (hn : n ≤ c) (hc : c ≤ maxLen) (hm : m ≤ d) (hd : d ≤ maxLen) (hfa : Fine a) (hfb : Fine b)
    (hl : a.length + b.length ≤ 1000000000) (hla : ∀ p, p ∈ a → p.places.length ≤ 100000000000) (hlb : ∀ p, p ∈ b → p.places.length ≤ 100000000000) :
    Calls Tryz.prog 30 #[.slice A n c, .slice A2 m d] w (PostsBack w (orP a b)) := by
  obtain ⟨W, hW⟩ : ∃ W, w.alloc (.cells #[.slice none 0 0] 36) = W := ⟨_, rfl⟩
  have hbw : Below w.heap.size w W := by rw [← hW]; exact (Below.refl _ _).alloc (Nat.le_refl _) _
  have hsz : W.heap.size = w.heap.size + 1 := by rw [← hW]; simp
  have hout : W.heap[w.heap.size]? = some (.cells #[.slice none 0 0] 36 (0, 0)) := by rw [← hW]; exact (MapKept.heap_alloc w _).1
  have HC := Lib.hid (both_posts (or_sees (w0 := W) (B := w.heap.size) (g := w.heap.size) (by omega) (Nat.le_refl _) (by omega) hfa hfb hl hla hlb) A A2 n m c d a b W (ha.below hbw) (hb.below hbw) hn hc hm hd rfl ⟨Below.refl _ _, _, [], hout, OwnPosts.nil_ _ _, rfl⟩)
  have HW := Lib.hid hW
  have HBW := Lib.hid hbw
  clear ha hb hfa hfb hl hla hlb hW hbw hsz hout
  go_enter Tryz.func30, Tryz.ntmps30
  go_wp2_with fail
  rw [HW.out]
  refine (docs_of _ _ _ _ HC.out).mono ?_
  rintro e w1 ⟨rfl, hb, v, ps, hbox, hown, hps⟩
  obtain ⟨A3, c3, rfl, -, -, -⟩ := hown.posts
  have e1 : w1.cell? ⟨w.heap.size, 0, none⟩ = some (.slice A3 ps.length c3) := by simp [World.cell?, hbox]
  have HF := Lib.hid (And.intro hown (And.intro hps hb))
  clear hbox hown hps hb
  go_wp2
  go_ret
  exact ⟨_, ps, rfl, HF.out.1.more (by omega), HF.out.2.1, HBW.out.trans HF.out.2.2⟩
end Go.Proofs.YtfinpehbpcckaaaGreatDoor
end
section
namespace Go.Proofs.YtfinpehbpcckaaaGreatDoor
open Go.RowKit
set_option linter.unusedVariables false

theorem contains_false {l : List Int} {x : Int} (h : x ∉ l) : l.contains x = false := by simpa using h
theorem search_any (A : Option Addr) (n c : Nat) (l : List Int) (x : Int) (w : World) (h : Ints w w.heap.size A n l) (hn : n < 4611686018427387904) (hs : l.Pairwise (· < ·)) :
    Calls Tryz.prog 83 #[.slice A n c, .int .i64 x] w fun e w' => e = .returned (.tuple #[.int .i64 (l.countP (· < x) : Nat), .bool (l.contains x)]) ∧ ∃ q, w' = w.drewN q := by
  by_cases h0 : n = 0
  · subst h0
    have hl : l = [] := List.eq_nil_of_length_eq_zero h.1.symm
    subst hl
    refine (Tryz.slices_BinarySearch_int_empty A c x w).mono ?_
    rintro e w' ⟨rfl, rfl⟩
    exact ⟨rfl, 0, rfl⟩
  · obtain ⟨ad, rfl, hb, hc⟩ := h.at_ (k := 0) (by omega)
    have hsp : ad.spot = none := by
      have := World.cell?_spot hc
      simpa [Addr.add] using this
    have had : ad = ⟨ad.block, ad.off, none⟩ := by rw [← hsp]
    have hlen := h.len
    have hcell : ∀ j, j < l.length → w.cell? ⟨ad.block, ad.off + j, none⟩ = some (.int .i64 (l.getD j 0)) := by
      intro j hj
      obtain ⟨ad', e, _, hc'⟩ := h.at_ (k := j) (by omega)
      injection e with e
      subst e
      have : (ad.add j) = ⟨ad.block, ad.off + j, none⟩ := by
        unfold Addr.add
        by_cases hj0 : j = 0
        · subst hj0; rw [if_pos rfl]; exact had
        · rw [if_neg hj0, ← hsp]
      rw [← this]; exact hc'
    have hle : (l.take n).Pairwise (· ≤ ·) := by
      rw [List.take_of_length_le (by omega)]
      exact hs.imp fun h => by omega
    have := Tryz.slices_BinarySearch_int ad.block ad.off n c l x w (by omega) hn hcell hle
    rw [List.take_of_length_le (by omega)] at this
    rw [had]
    exact this

/-- What Next makes of an event. -/
def nextQ (gap : Int) (x y : Post) : List Int := y.places.filter fun n => x.places.contains (n - gap)
def nextEv (gap : Int) (e : Option Post × Option Post) : Option Post := match e with
  | (some x, some y) => if nextQ gap x y = [] then none else some ⟨y.doc, nextQ gap x y⟩
  | _ => none
def nextP (gap : Int) (a b : List Post) : List Post := (evs Post.doc a b).filterMap (nextEv gap)
theorem filter_take {l : List Int} {k : Nat} (hk : k < l.length) (f : Int → Bool) : (l.take (k + 1)).filter f = (l.take k).filter f ++ (if f (gi l k) then [gi l k] else []) := by
  rw [List.take_succ_eq_append_getElem hk, List.filter_append, gi_get hk]
  by_cases h : f l[k] = true <;> simp [h]

def NextPost (w : World) (g : Nat) (ps : List (Post × Value)) (o : Option Post) (r : Ending) (w' : World) : Prop := r = .returned (.tuple #[]) ∧ ∃ v' ps', w'.heap[g]? = some (.cells #[v'] 36 (0, 0)) ∧ OwnPosts w' (g + 1) v' ps' ∧ ps'.map (·.1) = ps.map (·.1) ++ o.toList ∧ Off (fun k => g ≤ k) w w'
theorem next1_none (g gb : Nat) (v : Value) (ps : List (Post × Value)) (x y : Value) (w : World) (h : x = .pointer none ∨ (y = .pointer none ∧ ∃ ad, x = .pointer (some ad)))
    (hbox : w.heap[g]? = some (.cells #[v] 36 (0, 0))) (hown : OwnPosts w (g + 1) v ps) :
    Calls Tryz.prog 82 #[x, y, .pointer (some ⟨gb, 0, none⟩), .pointer (some ⟨g, 0, none⟩)] w (NextPost w g ps none) := by
  have HF := Lib.hid (show NextPost w g ps none (.returned (.tuple #[])) w from ⟨rfl, v, ps, hbox, hown, by simp, Off.refl _ _⟩)
  clear hbox hown
  rcases h with rfl | ⟨rfl, ad, rfl⟩
  · go_enter Tryz.func82, Tryz.ntmps82
    go_wp2
    go_end0
    exact HF.out
  · go_enter Tryz.func82, Tryz.ntmps82
    go_wp2
    go_end0
    exact HF.out
/-- The state of the loop over the positions. -/
def NState (w : World) (dy : Int) (q : List Int) (wr : World) : Prop := ∃ va, wr.heap[w.heap.size]? = some (.cells #[.int .i64 dy, va] 52 (0, 0)) ∧ OwnInts wr (w.heap.size + 1) va q ∧ Below w.heap.size w wr
set_option maxRecDepth 100000 in
set_option maxHeartbeats 4000000 in
theorem next1_both (g gb : Nat) (gap : Int) (p q : Post) (v : Value) (ps : List (Post × Value)) (ad bd : Addr) (w : World) (hp : PostAt w w.heap.size ad p) (hq : PostAt w w.heap.size bd q) (hlp : p.places.length ≤ 100000000000) (hlq : q.places.length ≤ 100000000000) (hpp : p.places.Pairwise (· < ·)) (hqq : ∀ n, n ∈ q.places → 0 ≤ n ∧ n ≤ 1099511627776)
    (hg0 : 0 ≤ gap) (hg1 : gap ≤ 1000) (hgap : w.cell? ⟨gb, 0, none⟩ = some (.int .i64 gap)) (hgb : gb < w.heap.size) (hbox : w.heap[g]? = some (.cells #[v] 36 (0, 0))) (hown : OwnPosts w (g + 1) v ps) (hlen : ps.length ≤ 1000000000) :
    Calls Tryz.prog 82 #[.pointer (some ad), .pointer (some bd), .pointer (some ⟨gb, 0, none⟩), .pointer (some ⟨g, 0, none⟩)] w (NextPost w g ps (nextEv gap (some p, some q))) := by
  obtain ⟨X, nx, cx, hab, a0, a1, hx1, hx2, hdp, hIp⟩ := hp
  obtain ⟨Y, ny, cy, hbb, c0, c1, hy1, hy2, hdq, hIq⟩ := hq
  have HBOX := Lib.hid hbox
  have HOWN := Lib.hid hown
  have HGAP := Lib.hid hgap
  have hgl : g < w.heap.size := heap_lt hbox
  rw [hIp.len] at hlp
  rw [hIq.len] at hlq
  have HIP := Lib.hid hIp
  have HIQ := Lib.hid hIq
  have HLQ := Lib.hid hIq.len
  have HPP := Lib.hid hpp
  have HQQ := Lib.hid hqq
  have HA1 := Lib.hid a1
  have HLEN := Lib.hid hlen
  obtain ⟨d, hd⟩ : ∃ d, q.doc = d := ⟨_, rfl⟩
  rw [hd] at c0 hdq
  have HD := Lib.hid hd
  have HN0 := Lib.hid (show NState w d ((q.places.take 0).filter fun n => p.places.contains (n - gap)) (w.alloc (.cells #[.int .i64 d, .slice none 0 0] 52)) from ⟨_, (MapKept.heap_alloc w _).1, OwnInts.nil_ _ _, (Below.refl _ _).alloc (Nat.le_refl _) _⟩)
  clear hbox hown hgap hIp hIq hpp hqq hlen hd
  go_enter Tryz.func82, Tryz.ntmps82
  go_wp2
  go_loopw [27] (fun i wr => ∃ k : Nat, k ≤ ny ∧ i = .int .i64 (k : Int) ∧ Hid (NState w d ((q.places.take k).filter fun n => p.places.contains (n - gap)) wr)) (fun i _ => ny - (intOf i).toNat)
  case atStart => exact ⟨0, Nat.zero_le _, rfl, HN0.out⟩
  case round =>
    obtain ⟨k, hk, rfl, HN⟩ := hrel
    obtain ⟨va, hbx, hva, hbel⟩ := HN.out
    have hsr := hbel.size
    have hwlt : w.heap.size < wr.heap.size := heap_lt hbx
    have HBX := Lib.hid hbx
    have HVA := Lib.hid hva
    have HBEL := Lib.hid hbel
    by_cases hlt : k < ny
    · have hk2 : (k : Int) < ny := by omega
      have hkl : k < q.places.length := by rw [HLQ.out]; exact hlt
      have hft := filter_take hkl (fun n => p.places.contains (n - gap))
      have hzb := HQQ.out (gi q.places k) (by rw [gi_get hkl]; exact List.getElem_mem hkl)
      obtain ⟨yd, rfl, hyb, e0⟩ := (HIQ.out.below HBEL.out).at_ hlt
      obtain ⟨z, hz⟩ : ∃ z, gi q.places k = z := ⟨_, rfl⟩
      rw [hz] at e0 hft hzb
      have e1 := (hbel.cell (p := ⟨ad.block, ad.off + 1, none⟩) hab).trans HA1.out
      have e2 := (hbel.cell (p := ⟨gb, 0, none⟩) hgb).trans HGAP.out
      have HC := Lib.hid (fun k' => search_any X nx cx p.places (z - gap) (wr.drewN k') (show Ints (wr.drewN k') (wr.drewN k').heap.size X nx p.places from ((HIP.out.below HBEL.out).more hsr)) (by omega) HPP.out)
      have hcl : (q.places.take k).length ≤ k := List.length_take_le _ _
      have hfl := List.length_filter_le (fun n => p.places.contains (n - gap)) (q.places.take k)
      obtain ⟨acc, hacc⟩ : ∃ acc, (q.places.take k).filter (fun n => p.places.contains (n - gap)) = acc := ⟨_, rfl⟩
      rw [hacc] at hva HVA hft hfl
      cases hct : p.places.contains (z - gap) with
      | false =>
        rw [hct] at HC
        rw [if_neg (by rw [hct]; decide), List.append_nil] at hft
        have HFT := Lib.hid hft
        clear hft hz hacc hct hbx hva hbel HN
        have y1 : IntKind.i64.wrap (z - gap) = z - gap := IntWalk.i64_in _ (by omega)
        go_wp2
        go_quiet ((go_at_call 83; exact Calls.quiet_of (HC.out _)))
        clear y1
        go_wp2
        go_roundw
        case rel => exact ⟨k + 1, by omega, by go_num, va, HBX.out, by show OwnInts _ _ _ _; rw [HFT.out]; exact HVA.out, Below.drewN HBEL.out _⟩
        case measure => simp [intOf] <;> omega
      | true =>
        rw [hct] at HC
        rw [if_pos hct] at hft
        have HFT := Lib.hid hft
        clear hft hz hacc hct hbx hva hbel HN
        have y1 : IntKind.i64.wrap (z - gap) = z - gap := IntWalk.i64_in _ (by omega)
        go_wp2
        go_quiet ((go_at_call 83; exact Calls.quiet_of (HC.out _)))
        clear y1
        have hB : w.heap.size + 1 ≤ (wr.drewN nq).heap.size := hwlt
        have hOW : Hid (OwnInts (wr.drewN nq) (w.heap.size + 1) va acc) := HVA.out
        have d1 : (wr.drewN nq).cell? ⟨w.heap.size, 1, none⟩ = some va := by
          have : wr.cell? ⟨w.heap.size, 1, none⟩ = some va := by simp [World.cell?, HBX.out]
          exact this
        have hzi : -9223372036854775808 ≤ z ∧ z ≤ 9223372036854775807 := by omega
        have HAL := Lib.hid (show acc.length < 1099511627776 by omega)
        go_wp2_with (at_builtin; go_must (refine wpList_push hOW.out hB hzi HAL.out rfl (.tmp 44) (.tmp 46) 26 1 rfl Tryz.underlying26 rfl rfl ?_); intro v' w8 hown1 hg1 hat1; obtain ⟨ao, cap, rfl, -, -, -⟩ := hown1.ints; have H1 := Lib.hid hown1; have H2 := Lib.hid hg1; have HBX8 := Lib.hid ((hg1.block w.heap.size hwlt fun e => by have := (hOW.out.1.lt _ e.symm).1; omega).trans HBX.out); have e1 : w8.cell? ⟨w.heap.size, 1, none⟩ = some va := (by simp [World.cell?, HBX8.out]); have ef : w8.frozen? ⟨w.heap.size, 1, none⟩ = false := (by simp [World.frozen?, HBX8.out]); clear hown1 hg1 hat1)
        go_roundw
        case rel =>
          have h1' := H1.out
          rw [show (acc ++ [z]).length = acc.length + 1 by simp] at h1'
          refine ⟨k + 1, by omega, by go_num, .slice ao (acc.length + 1) cap, ?_, ?_, ?_⟩
          · exact heap_setCell_same w8 w.heap.size 1 _ 52 _ HBX8.out
          · rw [HFT.out]
            exact h1'.block fun g hg => heap_setCell_other w8 ⟨w.heap.size, 1, none⟩ g _ (by have := (h1'.1.lt g hg).1; show ¬ g = w.heap.size; omega)
          · exact ((Below.drewN HBEL.out nq).grown H2.out (by show w.heap.size ≤ wr.heap.size; omega) fun g e => by have := (hOW.out.1.lt g e).1; omega).setCell (p := ⟨w.heap.size, 1, none⟩) (Nat.le_refl _) _
        case measure => simp [intOf] <;> omega
    · obtain rfl : k = ny := by omega
      have hfull : (q.places.take k).filter (fun n => p.places.contains (n - gap)) = nextQ gap p q := by rw [List.take_of_length_le (by rw [HLQ.out]; exact Nat.le_refl _)]; rfl
      rw [hfull] at hva
      obtain ⟨acc, hacc⟩ : ∃ acc, nextQ gap p q = acc := ⟨_, rfl⟩
      rw [hacc] at hva
      have HACC := Lib.hid hacc
      have HV := Lib.hid hva
      obtain ⟨A3, c3, rfl, -, -, -⟩ := hva.ints
      have HBX' := Lib.hid (show wr.heap[w.heap.size]? = some (.cells #[.int .i64 d, .slice A3 acc.length c3] 52 (0, 0)) from HBX.out)
      obtain ⟨an, han⟩ : ∃ n, acc.length = n := ⟨_, rfl⟩
      rw [han] at HBX' HV
      have d1 : wr.cell? ⟨w.heap.size, 1, none⟩ = some (.slice A3 an c3) := by simp [World.cell?, HBX'.out]
      have d0 : wr.cell? ⟨w.heap.size, 0, none⟩ = some (.int .i64 d) := by simp [World.cell?, HBX'.out]
      have HAN := Lib.hid han
      have HGB := Lib.hid ((HBEL.out.block g hgl).trans HBOX.out)
      have HOW := Lib.hid (HOWN.out.below HBEL.out)
      clear HN HBX HVA hva hacc hfull hbx hbel han
      by_cases h0 : an = 0
      · have HE := Lib.hid (show nextEv gap (some p, some q) = none by
          have : acc = [] := List.eq_nil_of_length_eq_zero (HAN.out.trans h0)
          show (if nextQ gap p q = [] then none else some (Post.mk q.doc (nextQ gap p q))) = none
          rw [HACC.out, this]; rfl)
        have h0' : ¬ (0 : Int) < (an : Int) := by omega
        have HF := Lib.hid (show NextPost w g ps (nextEv gap (some p, some q)) (.returned (.tuple #[])) wr from by
          rw [HE.out]
          exact ⟨rfl, v, ps, HGB.out, HOW.out, by simp, Off.of_below HBEL.out fun k hk hle => absurd hle (by omega)⟩)
        clear h0
        go_wp2
        go_end0
        exact HF.out
      · have HE := Lib.hid (show nextEv gap (some p, some q) = some ⟨d, acc⟩ by
          have : acc ≠ [] := fun e => h0 (by rw [← HAN.out, e]; rfl)
          show (if nextQ gap p q = [] then none else some (Post.mk q.doc (nextQ gap p q))) = _
          rw [HACC.out, if_neg this, HD.out])
        have h0' : (0 : Int) < (an : Int) := by omega
        have hs1 : g + 1 ≤ wr.heap.size := by omega
        obtain ⟨A, c, rfl, -, -, -⟩ := HOWN.out.posts
        have g0 : wr.cell? ⟨g, 0, none⟩ = some (.slice A ps.length c) := by simp [World.cell?, HGB.out]
        obtain ⟨X9, c9, e9, hpl⟩ := back_places (p := ⟨d, acc⟩) HOWN.out hdq (show OwnInts wr w.heap.size (.slice A3 an c3) acc from HV.out.more (by omega)) HBEL.out
        have e9' : Value.slice A3 an c3 = Value.slice X9 acc.length c9 := e9
        injection e9' with q1 q2 q3
        subst q1
        subst q3
        have HPL := Lib.hid (show PlacesIn wr (Value.slice A ps.length c).ownBlock (⟨d, acc⟩, .slice A3 an c3) by rw [← HAN.out]; exact hpl)
        clear h0 e9 hpl q2
        go_wp2_with (at_builtin; go_must (refine wpList_pushPost (p := ⟨d, acc⟩) HOW.out hs1 HPL.out HLEN.out rfl (.tmp 54) (.tmp 56) 1 rfl rfl rfl ?_); intro v' w8 hown8 hg8; obtain ⟨A8, c8, rfl, -, -, -⟩ := hown8.posts; obtain ⟨k3, k4, k5, k6⟩ := add_post HBEL.out HBOX.out HOWN.out hown8 hg8; have e1 : w8.cell? ⟨g, 0, none⟩ = some (.slice A ps.length c) := (by simp [World.cell?, k3]); have ef : w8.frozen? ⟨g, 0, none⟩ = false := (by simp [World.frozen?, k3]); have HF := Lib.hid (And.intro k4 (And.intro k5 k6)); clear k3 k4 k5 k6 hown8 hg8)
        go_end0
        have hf := HF.out
        simp only [List.length_append, List.length_cons, List.length_nil, Nat.zero_add] at hf
        refine ⟨rfl, _, _, hf.1, hf.2.1, ?_, hf.2.2⟩
        rw [HE.out, List.map_append]; rfl

/-- What Next's loop holds. -/
def NextInv (w0 : World) (g : Nat) (gap : Int) (done : List (Option Post × Option Post)) (w : World) : Prop := Below g w0 w ∧ ∃ v ps, w.heap[g]? = some (.cells #[v] 36 (0, 0)) ∧ OwnPosts w (g + 1) v ps ∧ ps.map (·.1) = done.filterMap (nextEv gap)
theorem callable_next1 : Callable 82 := callable_of Tryz.func82 (by kernel_rfl) (by kernel_rfl)
theorem next_sees {w0 : World} {B g gb : Nat} {gap : Int} {a b : List Post} (hB : B ≤ w0.heap.size) (hg : B ≤ g) (hgw : g ≤ w0.heap.size) (hgb : gb < g) (hgap : w0.cell? ⟨gb, 0, none⟩ = some (.int .i64 gap)) (hg0 : 0 ≤ gap) (hg1 : gap ≤ 1000) (ha : Fine a) (hb : Fine b) (hl : a.length + b.length ≤ 1000000000) (hla : ∀ p, p ∈ a → p.places.length ≤ 100000000000) (hlb : ∀ p, p ∈ b → p.places.length ≤ 100000000000)
    (hbb : ∀ p, p ∈ b → ∀ n, n ∈ p.places → 0 ≤ n ∧ n ≤ 1099511627776) :
    Sees (PostPtr B) (evs Post.doc a b) (NextInv w0 g gap) 82 #[.pointer (some ⟨gb, 0, none⟩), .pointer (some ⟨g, 0, none⟩)] B w0 := by
  refine ⟨fun done e rest w x y hE hI hx hy => ?_, callable_next1, fun done w w' hI hb => ?_, fun done w hI => hI.1.mono hg, hB⟩
  · obtain ⟨hbl, v, ps, hbox, hown, hps⟩ := hI
    have hlen : ps.length ≤ 1000000000 := by
      have h1 := evs_len (key := Post.doc) a b
      rw [← hE] at h1
      have h2 : ps.length ≤ done.length := by
        have := congrArg List.length hps
        simp only [List.length_map] at this
        rw [this]; exact List.length_filterMap_le _ _
      simp at h1
      omega
    have hev := evs_ok (key := Post.doc) a b ha.docs hb.docs e (by rw [← hE]; simp)
    have hBs : B ≤ w.heap.size := by have := hbl.size; omega
    have fin : ∀ r w', NextPost w g ps (nextEv gap e) r w' → (∃ v, r = .returned v) ∧ NextInv w0 g gap (done ++ [e]) w' := by
      rintro r w' ⟨rfl, v', ps', h1, h2, h3, h4⟩
      refine ⟨⟨_, rfl⟩, hbl.trans (h4.below (B := g) ?_ fun k hk => hk), v', ps', h1, h2, ?_⟩
      · have := hbl.size; omega
      · rw [h3, hps, List.filterMap_append]
        exact congrArg _ (by cases he : nextEv gap e <;> simp [he])
    obtain ⟨e1, e2⟩ := e
    cases e1 with
    | none => cases e2 with
      | none => exact hev.elim
      | some q =>
        have hx' : x = .pointer none := hx
        exact (next1_none g gb v ps x y w (.inl hx') hbox hown).mono fin
    | some p => cases e2 with
      | none =>
        have hy' : y = .pointer none := hy
        obtain ⟨ad, rfl, hp⟩ := hx
        exact (next1_none g gb v ps _ y w (.inr ⟨hy', ad, rfl⟩) hbox hown).mono fin
      | some q =>
        obtain ⟨ad, rfl, hp⟩ := hx
        obtain ⟨bd, rfl, hq⟩ := hy
        have hs := hbl.size
        exact (next1_both g gb gap p q v ps ad bd w (hp.more hBs) (hq.more hBs) (hla p hev.1) (hlb q hev.2.1) (ha.rows p hev.1) (hbb q hev.2.1) hg0 hg1 ((hbl.cell (p := ⟨gb, 0, none⟩) hgb).trans hgap) (by omega) hbox hown hlen).mono fin
  · obtain ⟨hbl, v, ps, hbox, hown, hps⟩ := hI
    exact ⟨hbl.trans (hb.mono (by have := hbl.size; omega)), v, ps, (hb.block g (heap_lt hbox)).trans hbox, hown.below hb, hps⟩
set_option maxRecDepth 100000 in
set_option maxHeartbeats 1000000 in
theorem next_any (A A2 : Option Addr) (n m c d : Nat) (gap : Int) (a b : List Post) (w : World) (ha : Posts w w.heap.size A n a) (hb : Posts w w.heap.size A2 m b) (hn : n ≤ c) (hc : c ≤ maxLen) (hm : m ≤ d) (hd : d ≤ maxLen) (hfa : Fine a) (hfb : Fine b) (hg0 : 0 ≤ gap) (hg1 : gap ≤ 1000)
    (hl : a.length + b.length ≤ 1000000000) (hla : ∀ p, p ∈ a → p.places.length ≤ 100000000000) (hlb : ∀ p, p ∈ b → p.places.length ≤ 100000000000) (hbb : ∀ p, p ∈ b → ∀ n, n ∈ p.places → 0 ≤ n ∧ n ≤ 1099511627776) :
    Calls Tryz.prog 31 #[.slice A n c, .slice A2 m d, .int .i64 gap] w (PostsBack w (nextP gap a b)) := by
  obtain ⟨W, hW⟩ : ∃ W, (w.alloc (.cells #[.int .i64 gap] 3)).alloc (.cells #[.slice none 0 0] 36) = W := ⟨_, rfl⟩
  have hbw : Below w.heap.size w W := by rw [← hW]; exact ((Below.refl _ _).alloc (Nat.le_refl _) _).alloc (by simp) _
  have hsz : W.heap.size = w.heap.size + 2 := by rw [← hW]; simp
  have hout : W.heap[w.heap.size + 1]? = some (.cells #[.slice none 0 0] 36 (0, 0)) := by
    rw [← hW]
    have := (MapKept.heap_alloc (w.alloc (.cells #[.int .i64 gap] 3)) (.cells #[.slice none 0 0] 36)).1
    simpa using this
  have hgp : W.heap[w.heap.size]? = some (.cells #[.int .i64 gap] 3 (0, 0)) := by
    rw [← hW, heap_alloc_old _ _ (by simp)]; exact (MapKept.heap_alloc w _).1
  have hgc : W.cell? ⟨w.heap.size, 0, none⟩ = some (.int .i64 gap) := by simp [World.cell?, hgp]
  have HC := Lib.hid (both_posts (next_sees (w0 := W) (B := w.heap.size) (g := w.heap.size + 1) (gb := w.heap.size) (gap := gap) (by omega) (by omega) (by omega) (by omega) hgc hg0 hg1 hfa hfb hl hla hlb hbb) A A2 n m c d a b W (ha.below hbw) (hb.below hbw) hn hc hm hd rfl ⟨Below.refl _ _, _, [], hout, OwnPosts.nil_ _ _, rfl⟩)
  have HW := Lib.hid hW
  have HBW := Lib.hid hbw
  clear ha hb hfa hfb hl hla hlb hbb hW hbw hsz hout hgp hgc
  go_enter Tryz.func31, Tryz.ntmps31
  go_wp2_with fail
  rw [HW.out]
  refine (docs_of _ _ _ _ HC.out).mono ?_
  rintro e w1 ⟨rfl, hb, v, ps, hbox, hown, hps⟩
  obtain ⟨A3, c3, rfl, -, -, -⟩ := hown.posts
  have e1 : w1.cell? ⟨w.heap.size + 1, 0, none⟩ = some (.slice A3 ps.length c3) := by simp [World.cell?, hbox]
  have HF := Lib.hid (And.intro hown (And.intro hps hb))
  clear hbox hown hps hb
  go_wp2
  go_ret
  exact ⟨_, ps, rfl, HF.out.1.more (by omega), HF.out.2.1, HBW.out.trans (HF.out.2.2.mono (by omega))⟩
end Go.Proofs.YtfinpehbpcckaaaGreatDoor
end
section
namespace Go.Proofs.YtfinpehbpcckaaaGreatDoor
open Go.RowKit
set_option linter.unusedVariables false

def inDocs (docs : List Int) (x : Post) : Bool := docs.contains x.doc
def ListedRel (w : World) (docs : List Int) (p : List Post) (ok : Bool) (k : Nat) (b : Bool) (wr : World) : Prop := b = (ok && (p.take k).all (inDocs docs)) ∧ Below w.heap.size w wr
/-- What Decode hands back, in one form. -/
theorem dec_form {w w' : World} {l : List UInt8} {docs : List Int} {e : Ending} (hl : l.length ≤ 1000000) (h : DecPost w l e w') :
    ∃ A n c p ok, e = .returned (.tuple #[.slice A n c, .bool ok]) ∧ Posts w' w'.heap.size A n p ∧ Below w.heap.size w w' ∧ n ≤ 1000000 ∧ n ≤ c ∧ c ≤ maxLen ∧ listedP l docs = ((ok && p.all (inDocs docs)) && !p.isEmpty) ∧ (postDec l).getD [] = p ∧ ok = (postDec l).isSome := by
  obtain ⟨hb, h⟩ := h
  rcases h with ⟨h1, rfl⟩ | ⟨v, ps, h1, rfl, h2⟩
  · refine ⟨none, 0, 0, [], false, rfl, Posts.nil_, hb, Nat.zero_le _, Nat.le_refl _, by simp, ?_, by rw [h1]; rfl, by rw [h1]; rfl⟩
    unfold listedP; rw [h1]; rfl
  · obtain ⟨A, cap, rfl, h3, h4, h5⟩ := h2.posts
    refine ⟨A, ps.length, cap, ps.map (·.1), true, rfl, h5, hb, ?_, h3, h4, ?_, by rw [h1]; rfl, by rw [h1]; rfl⟩
    · have := (postDec_some (by omega) h1).2.2.1
      rw [List.length_map] at this; omega
    · unfold listedP; rw [h1]; rfl
set_option maxRecDepth 100000 in
set_option maxHeartbeats 4000000 in
theorem listed_any (l : List UInt8) (D : Option Addr) (m d : Nat) (docs : List Int) (w : World) (hD : Ints w w.heap.size D m docs) (hm : m ≤ 1000000) (hs : docs.Pairwise (· < ·)) (hl : l.length ≤ 1000000) :
    Calls Tryz.prog 68 #[.string (ba l), .slice D m d] w fun e w' => e = .returned (.bool (listedP l docs)) ∧ Below w.heap.size w w' := by
  have HD := Lib.hid hD
  have HS := Lib.hid hs
  clear hD hs
  go_enter Tryz.func68, Tryz.ntmps68
  go_wp2_with fail
  refine (decode_any l w hl).mono ?_
  rintro e w1 hdec
  obtain ⟨A, n, c, p, ok, rfl, hP, hb, hn, -, -, hlp, -, -⟩ := dec_form (docs := docs) hl hdec
  have HP := Lib.hid hP
  have HB := Lib.hid hb
  have HLP := Lib.hid hlp
  have HN := Lib.hid hP.len
  clear hP hb hlp hdec
  go_wp2
  go_loopw [6, 18] (fun o i wr => ∃ (k : Nat) (b : Bool), k ≤ n ∧ i = .int .i64 (k : Int) ∧ o = .bool b ∧ Hid (ListedRel w1 docs p ok k b wr)) (fun _ i _ => n - (intOf i).toNat)
  case atStart => exact ⟨0, ok, Nat.zero_le _, rfl, rfl, by simp, Below.refl _ _⟩
  case round =>
    obtain ⟨k, b, hk, rfl, rfl, HR⟩ := hrel
    have hsz := HR.out.2.size
    by_cases hlt : k < n
    · have hk2 : (k : Int) < n := by omega
      have hkl : k < p.length := by rw [HN.out]; exact hlt
      obtain ⟨ad, X, x, c2, rfl, hbl, c0, c1, -, -, hbd, -⟩ := (HP.out.below HR.out.2).2 k hkl
      have HT := Lib.hid (show (p.take (k + 1)).all (inDocs docs) = ((p.take k).all (inDocs docs) && docs.contains p[k].doc) by
        rw [List.take_succ_eq_append_getElem hkl, List.all_append]; simp [inDocs])
      obtain ⟨z, hz⟩ : ∃ z, p[k].doc = z := ⟨_, rfl⟩
      rw [hz] at c0 hbd HT
      clear hz
      have HW : Hid (Below w.heap.size w (wr.alloc (.cells #[.int .i64 z, .slice X x c2] 52))) := Lib.hid ((HB.out.trans (HR.out.2.mono HB.out.size)).alloc (by have := HB.out.size; omega) _)
      have HI := Lib.hid ((HD.out.below HW.out).more (B' := (wr.alloc (.cells #[.int .i64 z, .slice X x c2] 52)).heap.size) HW.out.size)
      have HBEL := Lib.hid (HR.out.2.alloc hsz (.cells #[.int .i64 z, .slice X x c2] 52))
      go_wp2_with fail
      refine (search_any D m d docs z _ HI.out (by omega) HS.out).mono ?_
      rintro e w2 ⟨rfl, q, rfl⟩
      obtain ⟨is, his⟩ : ∃ is, docs.contains z = is := ⟨_, rfl⟩
      rw [his] at HT ⊢
      have HK := Lib.hid (show b = (ok && (p.take k).all (inDocs docs)) from HR.out.1)
      cases b
      · go_wp2
        go_roundw
        case rel => exact ⟨k + 1, false, by omega, by go_num, rfl, by rw [HT.out, ← Bool.and_assoc, ← HK.out]; rfl, Below.drewN HBEL.out q⟩
        case measure => simp [intOf] <;> omega
      · go_wp2
        go_roundw
        case rel => exact ⟨k + 1, is, by omega, by go_num, rfl, by rw [HT.out, ← Bool.and_assoc, ← HK.out]; rfl, Below.drewN HBEL.out q⟩
        case measure => simp [intOf] <;> omega
    · obtain rfl : k = n := by omega
      have HF := Lib.hid (show listedP l docs = (b && !p.isEmpty) by
        have h1 := HR.out.1
        rw [List.take_of_length_le (by rw [HN.out]; exact Nat.le_refl _)] at h1
        rw [HLP.out, h1])
      have HBEL := Lib.hid (HB.out.trans (HR.out.2.mono HB.out.size))
      cases b
      · go_wp2
        go_ret
        exact ⟨by rw [HF.out]; rfl, HBEL.out⟩
      · by_cases hn0 : 0 < k
        · have hn1 : (0 : Int) < (k : Int) := by omega
          have HE := Lib.hid (show p.isEmpty = false by cases hp : p with
            | nil => have := HN.out; rw [hp] at this; simp at this; omega
            | cons a r => rfl)
          go_wp2
          go_ret
          exact ⟨by rw [HF.out, HE.out]; rfl, HBEL.out⟩
        · have hn1 : ¬ (0 : Int) < (k : Int) := by omega
          have HE := Lib.hid (show p.isEmpty = true by cases hp : p with
            | nil => rfl
            | cons a r => have := HN.out; rw [hp] at this; simp at this; omega)
          go_wp2
          go_ret
          exact ⟨by rw [HF.out, HE.out]; rfl, HBEL.out⟩
end Go.Proofs.YtfinpehbpcckaaaGreatDoor
end
section
namespace Go.Proofs.YtfinpehbpcckaaaGreatDoor
open Go.RowKit
set_option linter.unusedVariables false

theorem word_info : (Tryz.prog.info? 106).map (fun i => (i.zero, i.size, i.bytes)) = some (some (.agg #[.string ByteArray.empty, .int .i64 0, .int .i64 0]), 3, 32) := by kernel_rfl
/-- The cells of the word that lies at a range of a text. -/
def wordCells (l : List UInt8) (r : Nat × Nat) : List Value := [.string (ba (wordAt l r)), .int .i64 r.1, .int .i64 r.2]
/-- v owns the words of l at the ranges ws, in a row of its own from B on. -/
def OwnWords (w : World) (B : Nat) (v : Value) (l : List UInt8) (ws : List (Nat × Nat)) : Prop := w.ownsRow B 106 3 v ws.length (ws.flatMap (wordCells l))
theorem OwnWords.nil_ (w : World) (B : Nat) (l : List UInt8) : OwnWords w B (.slice none 0 0) l [] := World.ownsRow_nil _ _ _ _
theorem OwnWords.below {w w' : World} {B : Nat} {v : Value} {l : List UInt8} {ws : List (Nat × Nat)} (h : OwnWords w B v l ws) (hb : Below w.heap.size w w') : OwnWords w' B v l ws :=
  ownsRow_block h fun b e => hb.block b (h.lt b e).2
theorem OwnWords.shape {w : World} {B : Nat} {v : Value} {l : List UInt8} {ws : List (Nat × Nat)} (h : OwnWords w B v l ws) : ∃ A c, v = .slice A ws.length c ∧ ws.length ≤ c ∧ c ≤ maxLen := by
  rcases h.2 with ⟨rfl, h0⟩ | ⟨g, cap, cur, rfl, hb, hg, q1, q2, q3⟩
  · exact ⟨none, 0, by rw [h0], by omega, by simp⟩
  · exact ⟨_, cap, rfl, q1, q2⟩
theorem word_len (l : List UInt8) : ∀ ws : List (Nat × Nat), (ws.flatMap (wordCells l)).length = ws.length * 3 := fun ws => by induction ws with | nil => rfl | cons a r ih => simp [wordCells] at ih ⊢; omega
theorem word_get (l : List UInt8) : ∀ (ws : List (Nat × Nat)) j (hj : j < ws.length) i (hi : i < 3), (ws.flatMap (wordCells l))[j * 3 + i]? = (wordCells l ws[j])[i]? := fun ws => by
  induction ws with
  | nil => intro j hj; simp at hj
  | cons a r ih =>
    intro j hj i hi
    cases j with
    | zero =>
      simp only [List.flatMap_cons, List.getElem_cons_zero, Nat.zero_mul, Nat.zero_add]
      rw [List.getElem?_append_left (by simp [wordCells]; omega)]
    | succ j =>
      have := ih j (by simpa using hj) i hi
      simp only [List.flatMap_cons, List.getElem_cons_succ]
      rw [List.getElem?_append_right (by simp [wordCells]; omega), show (j + 1) * 3 + i - (wordCells l a).length = j * 3 + i by simp [wordCells]; omega]
      exact this
set_option maxRecDepth 100000 in
theorem wp_pushWord {o : Oper} {a : Act} {K : Act → World → Prop} {W : World} {Q : Exit → Act → World → Prop} {B : Nat} {v : Value} {l : List UInt8} {ws : List (Nat × Nat)} {r : Nat × Nat} (hT : OwnWords W B v l ws) (hB : B ≤ W.heap.size)
    (hlen : ws.length ≤ 1000000000) (s y : Operand) (c : Nat)
    (ho : o.op = .call { callee := .builtin .append, args := #[s, y], argTypes := #[103, 103] }) (hs : a.eval s = v) (hx : a.eval y = .slice (some ⟨W.heap.size, 0, none⟩) 1 c)
    (h : ∀ v' w', OwnWords w' B v' l (ws ++ [r]) → W.grownBy w' v.ownBlock → K (a.put o.dst v') w') : o.wp Tryz.prog a (W.alloc (.cells #[.string (ba (wordAt l r)), .int .i64 r.1, .int .i64 r.2] 106)) K Q := by
  obtain ⟨i0, hi, hz0, hz1, hz2⟩ := info_parts word_info
  obtain ⟨v', w', hrun, h1, h2, _, h4⟩ := run_append_own_at (P := Tryz.prog) (W.alloc (.cells #[.string (ba (wordAt l r)), .int .i64 r.1, .int .i64 r.2] 106)) B 103 o.type 106 i0 _ 3 32 Tryz.underlying103 hi hz0 hz1 hz2 rfl (by omega) v ws.length (ws.flatMap (wordCells l)) (World.ownsRow.alloc hT _) ⟨W.heap.size, 0, none⟩ 1 c (wordCells l r) rfl (World.news_of_block (MapKept.heap_alloc W _).1) (by
    intro u hu
    simp only [wordCells, List.mem_cons, List.not_mem_nil, or_false] at hu
    rcases hu with rfl | rfl | rfl <;> rfl) (by simp only [maxLen]; omega) (by omega) (by simp; omega)
  have h5 := World.grownBy_alloc W (.cells #[.string (ba (wordAt l r)), .int .i64 r.1, .int .i64 r.2] 106) v.ownBlock
  have hg : W.grownBy w' v.ownBlock := ⟨h2.os.trans h5.os, h2.tape.trans h5.tape, h2.output.trans h5.output, Nat.le_trans h5.size h2.size, fun k hk hne => (h2.block k (by simp; omega) hne).trans (h5.block k hk hne)⟩
  have hfin : OwnWords w' B v' l (ws ++ [r]) := by
    show w'.ownsRow B _ 3 v' _ _
    simpa using h1
  unfold Oper.wp execOp
  simp only [ho, resolve, invoke, builtin, Sem.run_bind, Sem.run_pure, Result.andThen_ok, List.map_toArray, List.map_cons, List.map_nil, hs, hx, hrun]
  exact h v' w' hfin hg
theorem step_pushWord {ops : Array Oper} {o : Oper} {a : Act} {W : World} {K : Act → World → Prop} {Q : Exit → Act → World → Prop} {E : Prop} {B : Nat} {v : Value} {l : List UInt8} {ws : List (Nat × Nat)} {r : Nat × Nat} (hT : OwnWords W B v l ws) (hB : B ≤ W.heap.size)
    (hlen : ws.length ≤ 1000000000) (hgd : o.guard = none) (s y : Operand) (c : Nat)
    (ho : o.op = .call { callee := .builtin .append, args := #[s, y], argTypes := #[103, 103] }) (hs : a.eval s = v) (hx : a.eval y = .slice (some ⟨W.heap.size, 0, none⟩) 1 c)
    (h : ∀ v' w', OwnWords w' B v' l (ws ++ [r]) → W.grownBy w' v.ownBlock → K (a.put o.dst v') w') :
    if Region.wanted o (yielded ops a.tmps) = true then Oper.wp Tryz.prog o a (W.alloc (.cells #[.string (ba (wordAt l r)), .int .i64 r.1, .int .i64 r.2] 106)) K Q else E := by
  have hw : Region.wanted o (yielded ops a.tmps) = true := by simp [Region.wanted, hgd]
  rw [if_pos hw]
  exact wp_pushWord hT hB hlen s y c ho hs hx h
end Go.Proofs.YtfinpehbpcckaaaGreatDoor
end
section
namespace Go.Proofs.YtfinpehbpcckaaaGreatDoor
open Go.RowKit
set_option linter.unusedVariables false

theorem rune_len (r : Int) : (Lib.runeCells r).length = (Lib.encodeRune r).length ∧ (Lib.runeCells r).length ≤ 4 := by
  refine ⟨?_, (Lib.runeCells_le r).2⟩
  unfold Lib.runeCells Lib.encodeRune; simp
set_option maxHeartbeats 2000000 in
set_option maxRecDepth 100000 in
theorem write_rune (B b : Nat) (l : List UInt8) (r : Int) (w : World) (h : Bld w B b l) (hlen : l.length ≤ 100000000000000) (hBw : B ≤ w.heap.size) (hr0 : -2147483648 ≤ r) (hr1 : r ≤ 2147483647) :
    Calls Tryz.prog 143 #[.pointer (some ⟨b, 0, none⟩), .int .i32 r] w (WrotePost w B b (l ++ Lib.encodeRune r) (.tuple #[.int .i64 ((Lib.runeCells r).length : Nat), .nilIface])) := by
  obtain ⟨bs, hbs⟩ : ∃ x, Lib.byteCells l = x := ⟨_, rfl⟩
  have hbl : bs.length = l.length := by rw [← hbs, Lib.byteCells_length]
  unfold Bld at h
  rw [hbs] at h
  rw [← hbl] at hlen
  have HBS := Lib.hid hbs
  have H := Lib.hid h
  have hrl := rune_len r
  obtain ⟨k, hk⟩ : ∃ k, (Lib.runeCells r).length = k := ⟨_, rfl⟩
  rw [hk] at hrl
  have HK := Lib.hid hk
  have hk4 := hrl.2
  clear hbs hbl h hrl
  rw [hk]
  clear hk
  go_enter Tryz.func143, Tryz.ntmps143
  go_wp2_with fail
  refine (check_any B b bs _ H.out).mono ?_
  rintro e w1 ⟨rfl, h1, hb1, hk1⟩
  obtain ⟨hB, v, hbk, hown, hne⟩ := h1
  obtain ⟨ao, cap, rfl⟩ : ∃ ao cap, v = .slice ao bs.length cap := by
    rcases hown.2 with ⟨hv, h0⟩ | ⟨g, cap, cur, fz, hv, _⟩
    · exact ⟨none, 0, by rw [h0]; exact hv⟩
    · exact ⟨_, _, hv⟩
  have c0 : w1.cell? ⟨b, 0, none⟩ = some (.pointer (some ⟨b, 0, none⟩)) := by rw [Lib.cell_of_heap hbk]; rfl
  have c1 : w1.cell? ⟨b, 1, none⟩ = some (.slice ao bs.length cap) := by rw [Lib.cell_of_heap hbk]; rfl
  have HOWN := Lib.hid hown
  have HBK := Lib.hid hbk
  have HNE := Lib.hid hne
  have HB1 := Lib.hid hb1
  have HK1 := Lib.hid hk1
  have hs1 := hb1.size
  clear hown hbk hne hb1 hk1
  go_wp2_with fail
  refine (Tryz.utf8_AppendRune_row B _ bs.length bs r hr0 hr1 w1 HOWN.out (by omega) (by omega)).mono ?_
  rintro e w2 ⟨v2, rfl, hown2, o, hg⟩
  rw [HK.out] at hown2
  have hlt : b < w1.heap.size := heap_lt HBK.out
  have hb2 : w2.heap[b]? = some (.cells #[.pointer (some ⟨b, 0, none⟩), .slice ao bs.length cap] 78 (0, 0)) := by
    rw [hg.block b (by simp; omega) (fun e => HNE.out e.symm), Lib.alloc_old w1 _ b hlt]
    exact HBK.out
  obtain ⟨ao2, cap2, rfl⟩ : ∃ ao cap, v2 = .slice ao (bs.length + k) cap := by
    rcases hown2.2 with ⟨hv, h0⟩ | ⟨g, cap, cur, fz, hv, _⟩
    · exact ⟨none, 0, by rw [h0]; exact hv⟩
    · exact ⟨_, _, hv⟩
  have d0 : w2.cell? ⟨b, 0, none⟩ = some (.pointer (some ⟨b, 0, none⟩)) := by rw [Lib.cell_of_heap hb2]; rfl
  have d1 : w2.cell? ⟨b, 1, none⟩ = some (.slice ao bs.length cap) := by rw [Lib.cell_of_heap hb2]; rfl
  have f1 : w2.frozen? ⟨b, 1, none⟩ = false := Lib.frozen_of_heap hb2 1
  have hb3 : (w2.setCell ⟨b, 1, none⟩ (.slice ao2 (bs.length + k) cap2)).heap[b]? = some (.cells #[.pointer (some ⟨b, 0, none⟩), .slice ao2 (bs.length + k) cap2] 78 (0, 0)) := heap_setCell_same w2 b 1 _ 78 _ hb2
  have e1 : (w2.setCell ⟨b, 1, none⟩ (.slice ao2 (bs.length + k) cap2)).cell? ⟨b, 1, none⟩ = some (.slice ao2 (bs.length + k) cap2) := by rw [Lib.cell_of_heap hb3]; rfl
  have HOWN2 := Lib.hid hown2
  have HB2 := Lib.hid hb2
  have HG := Lib.hid hg
  clear c0 c1 hown2 hb2 hg hb3
  go_wp2
  go_ret2
  have e9 : Lib.byteCells (l ++ Lib.encodeRune r) = bs ++ Lib.runeCells r := by rw [Lib.byteCells_append, HBS.out, Lib.byteCells_encodeRune]
  refine ⟨congrArg (fun n : Int => Ending.returned (.tuple #[.int .i64 n, .nilIface])) (by omega), ?_, ?_, ((HK1.out.alloc _).grown HG.out (Lib.ownsRowF_kind (HOWN.out.alloc _))).setCell ⟨b, 1, none⟩ rfl _⟩
  · unfold Bld
    rw [e9]
    refine .inr (Lib.BuilderAtF.put (T := 78) (e := 5) hB HB2.out (bs' := bs ++ Lib.runeCells r) ?_ (by decide))
    rw [List.length_append, HK.out]; exact HOWN2.out
  · exact ((HB1.out.alloc (by omega) _).grown HG.out (by simp; omega) (fun k hk => (HOWN.out.lt k hk).1)).setCell (p := ⟨b, 1, none⟩) hB _
end Go.Proofs.YtfinpehbpcckaaaGreatDoor
end
