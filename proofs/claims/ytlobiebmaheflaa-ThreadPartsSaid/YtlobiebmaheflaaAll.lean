/- Contract of All: every conversation once, by its smallest number. -/
import Derived.Test.YtlobiebmaheflaaSorts
namespace Go.Proofs.Ytlobiebmaheflaa
open Go.RowKit
set_option linter.unusedVariables false

theorem rows_info : (Try.prog.info? 40).map (fun i => (i.zero, i.size, i.bytes)) = some (some (.slice none 0 0), 1, 24) := by kernel_rfl
/-- The roots in rs have been collected. -/
def rowsOf (num : Nat → Int) (grp : Nat → List Nat) (rs : List Nat) : List (List Int) := rs.map fun g => sortI ((grp g).map num)

/-- One list more. -/
theorem rows_push {w1 w2 w3 : World} {B : Nat} {o v v' : Value} {ll : List (List Int)} {l : List Int} {vs : List Value} (hvo : w1.ownsRow B 40 1 o vs.length vs) (hvl : vs.length = ll.length)
    (hvs : ∀ i (h1 : i < vs.length) (h2 : i < ll.length), OwnInts w1 B vs[i] ll[i] ∧ (∀ b, vs[i].ownBlock = some b → o.ownBlock ≠ some b)) (hb : Below w1.heap.size w1 w2) (hv : OwnInts w2 w1.heap.size v l) (hB : B ≤ w1.heap.size)
    (hg : (w2.alloc (.cells #[v] 40)).grownBy w3 o.ownBlock) (hown3 : w3.ownsRow B 40 1 v' (vs.length + 1) (vs ++ [v])) (hat : v'.ownBlock = o.ownBlock ∨ v'.ownBlock = some (w2.heap.size + 1)) : OwnRows w3 B v' (ll ++ [l]) := by
  have hs := hb.size
  have ho : ∀ b, o.ownBlock = some b → b < w1.heap.size := fun b e => (hvo.lt b e).2
  have keep : ∀ b, b < w2.heap.size → o.ownBlock ≠ some b → w3.heap[b]? = w2.heap[b]? := fun b hl hne => (hg.block b (by simp; omega) (fun e => hne e.symm)).trans ((MapKept.heap_alloc w2 _).2 b hl)
  refine ⟨vs ++ [v], by rw [List.length_append]; exact hown3, by simp [hvl], fun i h1 h2 => ?_⟩
  by_cases hi : i < vs.length
  · have hi2 : i < ll.length := by omega
    rw [List.getElem_append_left hi, List.getElem_append_left hi2]
    obtain ⟨q1, q2⟩ := hvs i hi hi2
    refine ⟨q1.block fun b e => ?_, fun b e => ?_⟩
    · have hl := (q1.1.lt b e).2
      rw [keep b (by omega) (q2 b e), hb.block b hl]
    · have hl := (q1.1.lt b e).2
      rcases hat with h | h
      · rw [h]; exact q2 b e
      · rw [h]; intro e2; injection e2 with e2; omega
  · have e1 : i = vs.length := by simp at h1; omega
    subst e1
    rw [List.getElem_append_right (Nat.le_refl _), List.getElem_append_right (by omega)]
    simp only [Nat.sub_self, List.getElem_cons_zero, hvl]
    refine ⟨(hv.more hB).block fun b e => ?_, fun b e => ?_⟩
    · exact keep b (hv.1.lt b e).2 (fun e2 => by have := ho b e2; have := (hv.1.lt b e).1; omega)
    · have hl := hv.1.lt b e
      rcases hat with h | h
      · rw [h]; intro e2; have := ho b e2; omega
      · rw [h]; intro e2; injection e2 with e2; omega

/-- The state of the collecting loop. -/
def Collect (w : World) (N c r0 : Nat) (nd : List (Msg × Nat)) (live : Nat → Prop) (num : Nat → Int) (up : Nat → Nat) (grp : Nat → List Nat) (D : DataW Value) (o : Value) (wr : World) : Prop :=
  ∃ left cnt rs, wr.ranges Try.prog 3 asIs N r0 c D left cnt ∧ OwnRows wr (w.heap.size + 1) o (rowsOf num grp rs) ∧ rs.Nodup ∧ (∀ g, g ∈ rs → live g ∧ up g = g ∧ left (.int .i64 (num g)) = false) ∧ (∀ m g, (m, g) ∈ nd → up g = g → left (.int .i64 m.id) = false → g ∈ rs) ∧ Below w.heap.size w wr
def Collected (w : World) (nd : List (Msg × Nat)) (live : Nat → Prop) (num : Nat → Int) (up : Nat → Nat) (grp : Nat → List Nat) (o : Value) (wr : World) : Prop :=
  ∃ rs, OwnRows wr (w.heap.size + 1) o (rowsOf num grp rs) ∧ rs.Nodup ∧ (∀ g, g ∈ rs → live g ∧ up g = g) ∧ (∀ m g, (m, g) ∈ nd → up g = g → g ∈ rs) ∧ Below w.heap.size w wr
def AllPost (w : World) (L : List Msg) (e : Ending) (w' : World) : Prop := ∃ v, e = .returned v ∧ OwnRows w' w.heap.size v (allOf L) ∧ Below w.heap.size w w'

theorem OwnRows.more {w : World} {B B' : Nat} {v : Value} {ll : List (List Int)} (h : OwnRows w B v ll) (hB : B' ≤ B) : OwnRows w B' v ll := by
  obtain ⟨vs, ⟨h0, h1⟩, h2, h3⟩ := h
  refine ⟨vs, ⟨h0, ?_⟩, h2, fun i a b => ⟨(h3 i a b).1.more hB, (h3 i a b).2⟩⟩
  rcases h1 with h1 | ⟨g, cap, cur, e, hb, r⟩
  · exact .inl h1
  · exact .inr ⟨g, cap, cur, e, by omega, r⟩
/-- The sorted rows of all roots are All. -/
theorem rows_law {w : World} {tag : Nat → Tag} {hd : Nat} {nd : List (Msg × Nat)} {c N T : Nat} {nm : Int → Option Nat} {live : Nat → Prop} {num : Nat → Int} {tm : Nat → List Tie} {up root dep : Nat → Nat} {grp : Nat → List Nat} {tl : Tie → List Nat}
    (hp : ThP w tag hd nd c N T nm live num tm up root dep grp tl) {rs : List Nat} (hrn : rs.Nodup) (h1 : ∀ g, g ∈ rs → live g ∧ up g = g) (h2 : ∀ m g, (m, g) ∈ nd → up g = g → g ∈ rs) :
    (∀ l, l ∈ rowsOf num grp rs → ∃ x r, l = x :: r ∧ 1 ≤ x ∧ x ≤ 9223372036854775807) ∧ ∀ ll', ll'.Perm (rowsOf num grp rs) → ll'.Pairwise (fun a b => a.headD 0 ≤ b.headD 0) → ll' = allOf (msgs nd) := by
  have K := hp.whole.knit
  have B := hp.bears
  have hmem : ∀ g, g ∈ rs → ∀ x, x ∈ sortI ((grp g).map num) → ∃ y, live y ∧ root y = g ∧ num y = x ∧ 1 ≤ x ∧ x ≤ 9223372036854775807 := fun g hg x hx => by
    obtain ⟨y, hy, rfl⟩ := List.mem_map.1 (mem_sortI.1 hx)
    obtain ⟨a, b⟩ := (K.fst.grpM g (h1 g hg).1 (h1 g hg).2 y).1 hy
    obtain ⟨m, hm⟩ := (B.lv y).1 a
    have := hp.fine m y hm
    rw [← hp.num m y hm] at this
    exact ⟨y, a, b, rfl, this.1, this.2.1⟩
  have hne : ∀ g, g ∈ rs → ∃ x r, sortI ((grp g).map num) = x :: r := fun g hg => by
    cases hs : sortI ((grp g).map num) with
    | cons x r => exact ⟨x, r, rfl⟩
    | nil =>
      have h3 : num g ∈ sortI ((grp g).map num) := mem_sortI.2 (List.mem_map.2 ⟨g, (K.fst.grpM g (h1 g hg).1 (h1 g hg).2 g).2 ⟨(h1 g hg).1, K.fst.fix g (h1 g hg).1 (h1 g hg).2⟩, rfl⟩)
      rw [hs] at h3; cases h3
  have hgrp : ∀ m g, (m, g) ∈ nd → sortI ((grp (root g)).map num) = groupOf (msgs nd) m.id := fun m g hm => by
    have lg := (B.lv g).2 ⟨m, hm⟩
    exact B.group K hp.num hm (sortI_asc (B.group_nodup K hp.num (K.fst.rootL g lg) (K.fst.rootF g lg))) fun j => mem_sortI
  refine ⟨fun l hl => ?_, fun ll' hperm hsort => ?_⟩
  · obtain ⟨g, hg, rfl⟩ := List.mem_map.1 hl
    obtain ⟨x, r, e⟩ := hne g hg
    obtain ⟨_, _, _, _, a, b⟩ := hmem g hg x (by rw [e]; simp)
    exact ⟨x, r, e, a, b⟩
  · have hdist : (rowsOf num grp rs).Pairwise (fun a b => a.headD 0 ≠ b.headD 0) := by
      unfold rowsOf
      rw [List.pairwise_map]
      rw [List.nodup_iff_pairwise_ne] at hrn
      refine hrn.imp_of_mem ?_
      intro a b ha hb hab e
      obtain ⟨x, r, ex⟩ := hne a ha
      obtain ⟨y, r', ey⟩ := hne b hb
      rw [ex, ey] at e
      have e' : x = y := e
      subst e'
      obtain ⟨p, p1, p2, p3, _⟩ := hmem a ha x (by rw [ex]; simp)
      obtain ⟨q, q1, q2, q3, _⟩ := hmem b hb x (by rw [ey]; simp)
      obtain ⟨m, hm⟩ := (B.lv p).1 p1
      obtain ⟨m', hm'⟩ := (B.lv q).1 q1
      have e3 := B.asc.inj (mem_msgs.2 ⟨p, hm⟩) (mem_msgs.2 ⟨q, hm'⟩) (by rw [← hp.num m p hm, ← hp.num m' q hm', p3, q3])
      subst e3
      have e4 := B.uno _ _ _ hm hm'
      subst e4
      exact hab (p2.symm.trans q2)
    have hd2 : ll'.Pairwise (fun a b => a.headD 0 ≠ b.headD 0) := (hperm.pairwise_iff (fun h e => h e.symm)).2 hdist
    refine allOf_eq B.asc ((hsort.and hd2).imp fun ⟨a, b⟩ => by omega) fun l => ?_
    rw [hperm.mem_iff]
    unfold rowsOf
    rw [List.mem_map]
    constructor
    · rintro ⟨g, hg, rfl⟩
      obtain ⟨m, hm⟩ := (B.lv g).1 (h1 g hg).1
      have := hgrp m g hm
      rw [K.fst.fix g (h1 g hg).1 (h1 g hg).2] at this
      exact ⟨m, mem_msgs.2 ⟨g, hm⟩, this⟩
    · rintro ⟨m, hm, rfl⟩
      obtain ⟨g, hg⟩ := mem_msgs.1 hm
      have lg := (B.lv g).2 ⟨m, hg⟩
      have lr := K.fst.rootL g lg
      obtain ⟨m', hm'⟩ := (B.lv _).1 lr
      exact ⟨root g, h2 m' _ hm' (K.fst.rootF g lg), hgrp m g hg⟩

set_option maxRecDepth 100000 in
set_option maxHeartbeats 4000000 in
theorem all_any (w : World) {tag : Nat → Tag} {hd : Nat} {L : List Msg} {c : Nat} (h : Th w tag hd L c) (hL : L.length ≤ 1000) :
    Calls Try.prog 19 #[.pointer (some ⟨hd, 0, none⟩)] w (AllPost w L) := by
  obtain ⟨nd, N, T, nm, live, num, tm, up, root, dep, grp, tl, hp, hnd⟩ := h
  have hh := hp.whole.mem.hdr
  have hhl := heap_lt hh
  have kh : w.cell? ⟨hd, 0, none⟩ = some (.map (some N)) := by simp [World.cell?, hh]
  obtain ⟨D, hown, hat⟩ := hp.whole.mem.nodes
  have hNl := hown.lt
  have HP := Lib.hid hp
  have HND := Lib.hid hnd
  have HL := Lib.hid hL
  have HO := Lib.hid hown
  have HAT := Lib.hid hat
  clear hp hnd hh hL hown hat
  go_enter Try.func19, Try.ntmps19
  go_wp2_with (at_range; refine wpList_range_own _ rfl _ 49 rfl 3 59 intKeyed Try.underlying49 asIs N c D rfl HO.out ?_; intro w0 hrg0 hg0 hs0)
  go_frame
  have hC0 : Collect w N c w.heap.size nd live num up grp D (.slice none 0 0) w0 := by
    refine ⟨_, _, [], hrg0, OwnRows.nil_ _ _, List.nodup_nil, fun g hg => (by cases hg), fun m g hmg hu hl => ?_, ?_⟩
    · exfalso
      have hwf : (Lit.int .i64 m.id).wf = true := by have := HP.out.fine m g hmg; exact WalkArith.wf_i64 (by omega)
      have h1 := (HP.out.name m.id g).2 ⟨m, hmg, rfl⟩
      have h2 := HAT.out m.id hwf
      rw [h1] at h2
      have := Maps.has_true_of_atKey h2
      rw [this] at hl; cases hl
    · exact ⟨hg0.os, hg0.tape, hg0.output, hg0.size, fun k hk => hg0.block k hk (by simp)⟩
  have HC0 := Lib.hid hC0
  clear hrg0 hg0 hs0 hC0
  go_loopw [2] (fun o wr => Hid (Collect w N c w.heap.size nd live num up grp D o wr)) (fun _ wr => wr.rangeLeft N w.heap.size)
  case atStart => exact HC0
  case round =>
    rename_i o
    clear HC0
    obtain ⟨left, cnt, rs, hrg, hor, hrn, hrs, hcm, hbel⟩ := hrel.out
    have HRG := Lib.hid hrg
    have HOR := Lib.hid hor
    have HRN := Lib.hid hrn
    have HRS := Lib.hid hrs
    have HCM := Lib.hid hcm
    have HBEL := Lib.hid hbel
    clear hrel hrg hor hrn hrs hcm hbel
    go_wp2_with (at_next; refine wpList_next_ranges _ rfl _ rfl 3 intKeyed asIs (Value.int .i64) id (fun key kl hkey => by obtain ⟨x, h1, _⟩ := Maps.keyOf_int_inv Try.underlying3 hkey; exact ⟨x, h1⟩) (fun v y _ => ⟨v, rfl⟩) N w.heap.size c D left cnt rfl HRG.out ?_ ?_)
    · intro hc0 hl0
      have HCD : Hid (Collected w nd live num up grp u2 wr) := ⟨rs, HOR.out, HRN.out, fun g hg => ⟨(HRS.out g hg).1, (HRS.out g hg).2.1⟩, fun m g hmg hu => HCM.out m g hmg hu (hl0 _), HBEL.out⟩
      clear hc0 hl0 HRG HOR HRN HRS HCM HBEL
      go_wp2_with fail
      obtain ⟨rs', ho', hn', h1', h2', hb'⟩ := HCD.out
      obtain ⟨hne, hlaw⟩ := rows_law HP.out hn' h1' h2'
      have hndl : nd.length ≤ 1000 := by have := HL.out; rw [← HND.out] at this; simpa [msgs] using this
      have hfew : Few live 1000 := ⟨nd.map (·.2), fun x hx => by obtain ⟨y, hy⟩ := (HP.out.bears.lv x).1 hx; exact List.mem_map.2 ⟨_, hy, rfl⟩, by simpa using hndl⟩
      have hrsl : rs'.length ≤ 1000 := hfew.le hn' fun y hy => (h1' y hy).1
      refine (sorts_any wr (w.heap.size + 1) u2 (rowsOf num grp rs') ho' hne (by unfold rowsOf; rw [List.length_map]; omega)).mono ?_
      rintro e w2 ⟨rfl, ll', hperm, hsort, hrows, hgr⟩
      have hall := hlaw ll' hperm hsort
      have hown : ∀ k, u2.ownBlock = some k → w.heap.size ≤ k := fun k e => by obtain ⟨vs, hv, -⟩ := hrows; have := (hv.lt k e).1; omega
      have HR := Lib.hid hrows
      have HG := Lib.hid hgr
      have HA := Lib.hid hall
      have HW := Lib.hid hown
      have HB := Lib.hid hb'
      clear hrows hgr hall hown hb' hperm hsort hlaw hne hndl hfew hrsl ho' hn' h1' h2'
      go_wp2
      go_ret
      refine ⟨_, rfl, ?_, HB.out.grown HG.out HB.out.size HW.out⟩
      rw [← HND.out, ← HA.out]
      exact HR.out.more (by omega)
    · intro x cv kl a b w1 cnt1 hkey hlx hv hat1 hrg1 hlt1 hg1 hs1 hen
      have hkl : kl = .int .i64 x ∧ (Lit.int .i64 x).wf = true := by
        obtain ⟨x', e1, e2, e3⟩ := Maps.keyOf_int_inv Try.underlying3 hkey
        injection e1 with _ e1; subst e1; exact ⟨e2, e3⟩
      obtain ⟨rfl, hwx⟩ := hkl
      have hnode : ∃ g, nm x = some g ∧ cv = .pointer (some ⟨g, 0, none⟩) := by
        have ha : a = .held cv := by unfold asIs at hv; simp only [Option.some.injEq, Prod.mk.injEq] at hv; exact hv.1.symm
        subst ha
        cases hnx : nm x with
        | none =>
          have h1 := HAT.out x hwx .nil
          rw [hnx, hat1] at h1
          cases h1
        | some g =>
          have h1 := HAT.out x hwx .nil
          rw [hnx, hat1] at h1
          exact ⟨g, rfl, DataW.held.inj h1⟩
      obtain ⟨g, hnx, rfl⟩ := hnode
      obtain ⟨y, hyg, hyx⟩ := (HP.out.name x g).1 hnx
      have hgl : live g := (HP.out.bears.lv g).2 ⟨y, hyg⟩
      have hbel1 : Below w.heap.size w w1 := HBEL.out.grown hg1 HBEL.out.size (fun k e => by have : w.heap.size = k := Option.some.inj e; omega)
      have hor1 : OwnRows w1 (w.heap.size + 1) u2 (rowsOf num grp rs) := HOR.out.off fun b hb hl => hg1.block b hl (fun e => by have : b = w.heap.size := Option.some.inj e; omega)
      have hM1 : Mem w1 tag hd N T nm live (fun g => up g = g) num tm up grp tl c := HP.out.whole.mem.off (.of_below hbel1 (F := fun b => w.heap.size ≤ b) fun _ _ h => h) HP.out.whole.mem.fresh
      obtain ⟨tv, gv, c0, -, c2, c3, -, -, -⟩ := hM1.cells hgl
      have hnum := HP.out.num y g hyg
      obtain ⟨z, hz⟩ : ∃ z, up g = z := ⟨_, rfl⟩
      rw [hz] at c2
      unfold ptr at c2
      have hlx' : left (.int .i64 x) = true := hlx
      have HZ := Lib.hid hz
      have HYG := Lib.hid hyg
      have HYX := Lib.hid hyx
      have HGL := Lib.hid hgl
      have HB1 := Lib.hid hbel1
      have HOR1 := Lib.hid hor1
      have HM1 := Lib.hid hM1
      have HNUM := Lib.hid hnum
      have HRG1 := Lib.hid hrg1
      have HLT1 := Lib.hid hlt1
      have HLX := Lib.hid hlx'
      have hfresh : ∀ left' : Lit → Bool, left' = (fun z => left z && !z.sameKey (.int .i64 x)) → (∀ g', g' ∈ rs → live g' ∧ up g' = g' ∧ left' (.int .i64 (num g')) = false) := fun left' e g' hg' => by
        subst e
        obtain ⟨h1, h2, h3⟩ := HRS.out g' hg'
        exact ⟨h1, h2, by simp only [h3, Bool.false_and]⟩
      have HFR := Lib.hid hfresh
      clear hkey hlx hv hat1 hrg1 hlt1 hg1 hs1 hwx hnx hyg hyx hgl hbel1 hor1 hM1 c0 hnum hz hlx' hfresh
      by_cases hzg : z = g
      · subst hzg
        have hsame := (ptr_same w1 z).2
        have hF := HP.out.whole.knit.fst
        obtain ⟨gr, n, cap, c3', -, hn, hn0, hown, htg, hgr, -⟩ := grp_row HM1.out hF HGL.out HZ.out HZ.out
        have hndl : nd.length ≤ 1000 := by have := HL.out; rw [← HND.out] at this; simpa [msgs] using this
        have hfew : Few live 1000 := ⟨nd.map (·.2), fun x hx => by obtain ⟨y, hy⟩ := (HP.out.bears.lv x).1 hx; exact List.mem_map.2 ⟨_, hy, rfl⟩, by simpa using hndl⟩
        have hlen : n ≤ 1000000 := by
          rw [hn]
          have := hfew.le (hF.grpN z HGL.out HZ.out) fun y hy => ((hF.grpM z HGL.out HZ.out y).1 hy).1
          omega
        have hrsl : rs.length ≤ 1000 := hfew.le HRN.out fun y hy => (HRS.out y hy).1
        have hcells : ∀ j (hj : j < (grp z).length), ∃ g, (some ⟨gr, 0, none⟩ : Option Addr) = some ⟨g, 0, none⟩ ∧ g < w1.heap.size ∧ w1.cell? ⟨g, j, none⟩ = some (ptr (grp z)[j]) := fun j hj => by
          refine ⟨gr, rfl, hgr, ?_⟩
          have := hown.cells (g := gr) rfl j (ptr (grp z)[j]) (by simp [hj])
          by_cases e : j = 0
          · subst e; simpa [Addr.add] using this
          · simpa [Addr.add, e] using this
        have hids : ∀ x, x ∈ grp z → x < w1.heap.size ∧ w1.cell? ⟨x, 0, none⟩ = some (.int .i64 (num x)) ∧ -9223372036854775808 ≤ num x ∧ num x ≤ 9223372036854775807 := fun x hx => by
          have hxl := ((hF.grpM z HGL.out HZ.out x).1 hx).1
          obtain ⟨y, hy⟩ := (HP.out.bears.lv x).1 hxl
          obtain ⟨_, _, c0, _⟩ := HM1.out.cells hxl
          have := HP.out.fine y x hy
          have e := HP.out.num y x hy
          exact ⟨(HM1.out.node_tag hxl).2, c0, by rw [e]; omega, by rw [e]; omega⟩
        obtain ⟨vs, hvo, hvl, hvs⟩ := HOR1.out
        have hvn : vs.length ≤ 1000 := by rw [hvl]; simpa [rowsOf] using hrsl
        have HN := Lib.hid hn
        have HC := Lib.hid hcells
        have HI := Lib.hid hids
        have HVO := Lib.hid hvo
        have HVL := Lib.hid hvl
        have HVS := Lib.hid hvs
        clear hF hn hown htg hndl hfew hcells hids hvo hvl hvs c3 hrsl
        go_wp2_with fail
        refine (numbers_any (some ⟨gr, 0, none⟩) n cap (grp z) num w1 HN.out.symm hlen HC.out HI.out).mono ?_
        rintro e w2 ⟨v, rfl, hv, hb⟩
        obtain ⟨VA, vl, vcap, rfl⟩ : ∃ a l c, v = .slice a l c := by obtain ⟨a, c, e, -⟩ := hv.ints; exact ⟨a, _, c, e⟩
        have hB12 : w.heap.size + 1 ≤ w1.heap.size := by
          have h1 := HRG1.out.lt
          omega
        have hb2s := hb.size
        have hvo2 : w2.ownsRow (w.heap.size + 1) 40 1 u2 vs.length vs := ownsRow_block HVO.out fun b e => hb.block b (HVO.out.lt b e).2
        obtain ⟨i0, hi, hz0, hz1, hz2⟩ := info_parts rows_info
        have HV := Lib.hid hv
        have HB := Lib.hid hb
        have HVO2 := Lib.hid hvo2
        clear hv hb hvo2 hsame
        go_wp2_with (at_builtin; refine wpList_append_own_at _ rfl _ _ _ rfl (w.heap.size + 1) 40 i0 (.slice none 0 0) 1 24 Try.underlying42 hi hz0 hz1 hz2 rfl (by omega) u2 vs.length vs rfl (by exact HVO2.out.alloc _) ⟨w2.heap.size, 0, none⟩ 1 1 [.slice VA vl vcap] rfl rfl (cell_one_new _ _ _) (by intro u hu; simp at hu; subst hu; rfl) (by simp only [maxLen]; omega) (by omega) (by simp; omega) ?_; intro v' w3 hown3 hg3 _ hat3; have HO3 := Lib.hid hown3; have HG3 := Lib.hid hg3; have HAT3 := Lib.hid hat3; clear hown3 hg3 hat3)
        go_roundw
        case rel =>
          have hrow := rows_push HVO.out HVL.out HVS.out HB.out HV.out hB12 HG3.out HO3.out (by rcases HAT3.out with h | h; exact .inl h; exact .inr (by rw [h]; simp))
          have hb3 : Below w.heap.size w w3 := by
            have h1 : Below w.heap.size w w2 := HB1.out.trans (HB.out.mono HB1.out.size)
            have h2 := h1.alloc h1.size (.cells #[.slice VA vl vcap] 40)
            exact h2.grown HG3.out (by simp; omega) (fun k e => by have := (HVO2.out.lt k e).1; omega)
          have hgrc : w1.grownBy w3 u2.ownBlock := ⟨HG3.out.os.trans HB.out.os, HG3.out.tape.trans HB.out.tape, HG3.out.output.trans HB.out.output, by have := HG3.out.size; simp at this; omega, fun k hk hne => (HG3.out.block k (by simp; omega) hne).trans (((MapKept.heap_alloc w2 _).2 k (by omega)).trans (HB.out.block k hk))⟩
          have hu2 : ∀ k, u2.ownBlock = some k → w.heap.size + 1 ≤ k := fun k e => (HVO2.out.lt k e).1
          refine ⟨_, _, rs ++ [z], HRG1.out.kept hgrc (fun e => by have := hu2 _ e.symm; omega) (fun e => by have := hu2 _ e.symm; omega), by unfold rowsOf at hrow ⊢; rw [List.map_append]; exact hrow, ?_, fun g' hg' => ?_, fun m' g' hmg hu hl => ?_, hb3⟩
          · rw [List.nodup_append]
            refine ⟨HRN.out, by simp, fun a ha b hb e => ?_⟩
            rw [List.mem_singleton] at hb
            subst hb; subst e
            have h3 := (HRS.out a ha).2.2
            rw [HNUM.out, HYX.out, HLX.out] at h3; cases h3
          · rcases List.mem_append.1 hg' with hg' | hg'
            · exact HFR.out _ rfl g' hg'
            · rw [List.mem_singleton.1 hg']
              refine ⟨HGL.out, HZ.out, ?_⟩
              rw [HNUM.out, HYX.out]
              have : (Lit.int .i64 x).sameKey (.int .i64 x) = true := WideAt.sameKey_self trivial
              simp only [this, Bool.not_true, Bool.and_false]
          · by_cases e : left (.int .i64 m'.id) = false
            · exact List.mem_append_left _ (HCM.out m' g' hmg hu e)
            · have e1 : left (.int .i64 m'.id) = true := by cases h : left (.int .i64 m'.id) with | true => rfl | false => exact absurd h e
              rw [e1, Bool.true_and, Bool.not_eq_false'] at hl
              have e2 := WideAt.sameKey_eq hl
              injection e2 with _ e2
              have e3 := HP.out.bears.asc.inj (mem_msgs.2 ⟨g', hmg⟩) (mem_msgs.2 ⟨z, HYG.out⟩) (e2.trans HYX.out.symm)
              subst e3
              have e4 := HP.out.bears.uno _ _ _ hmg HYG.out
              simp [e4]
        case measure =>
          have hu2 : ∀ k, u2.ownBlock = some k → w.heap.size + 1 ≤ k := fun k e => (HVO2.out.lt k e).1
          have hgrc : w1.grownBy w3 u2.ownBlock := ⟨HG3.out.os.trans HB.out.os, HG3.out.tape.trans HB.out.tape, HG3.out.output.trans HB.out.output, by have := HG3.out.size; simp at this; omega, fun k hk hne => (HG3.out.block k (by simp; omega) hne).trans (((MapKept.heap_alloc w2 _).2 k (by omega)).trans (HB.out.block k hk))⟩
          rw [(HRG1.out.kept hgrc (fun e => by have := hu2 _ e.symm; omega) (fun e => by have := hu2 _ e.symm; omega)).left_eq, HRG.out.left_eq]; exact HLT1.out
      · have hne := (HM1.out.neq (show live z by rw [← HZ.out]; exact HP.out.whole.knit.fst.upL g HGL.out) HGL.out hzg).2
        have HZG := Lib.hid hzg
        clear hzg c3
        go_wp2
        go_roundw
        case rel =>
          refine ⟨_, _, rs, HRG1.out, HOR1.out, HRN.out, HFR.out _ rfl, fun m' g' hmg hu hl => ?_, HB1.out⟩
          by_cases e : left (.int .i64 m'.id) = false
          · exact HCM.out m' g' hmg hu e
          · exfalso
            have e1 : left (.int .i64 m'.id) = true := by cases h : left (.int .i64 m'.id) with | true => rfl | false => exact absurd h e
            rw [e1, Bool.true_and, Bool.not_eq_false'] at hl
            have e2 := WideAt.sameKey_eq hl
            injection e2 with _ e2
            have e3 := HP.out.bears.asc.inj (mem_msgs.2 ⟨g', hmg⟩) (mem_msgs.2 ⟨g, HYG.out⟩) (e2.trans HYX.out.symm)
            subst e3
            have e4 := HP.out.bears.uno _ _ _ hmg HYG.out
            subst e4
            exact HZG.out (HZ.out.symm.trans hu)
        case measure =>
          rw [HRG1.out.left_eq, HRG.out.left_eq]; exact HLT1.out
end Go.Proofs.Ytlobiebmaheflaa
