/- ThreadParts: the walk. The law's argument reads as a list of operations. -/
import Derived.Test.YtlobiebmaheflaaPartsP
import Derived.Test.YtlobiebmaheflaaOrder
import Derived.Deep.RegionHeld3
import Derived.IntWalk
import Derived.Test.YtlobiebmaheflaaRunR
namespace Go.Proofs.Ytlobiebmaheflaa
open Go.RowKit
set_option linter.unusedVariables false

/-- The state at the head of the first loop. -/
def AddsRel (w : World) (hd j : Nat) (v : Value) (wr : World) : Prop :=
  ∃ L ps tag, One w wr tag hd L (900 * j) ∧ L.length ≤ j ∧ There w wr w.heap.size v ps ∧ ps.length ≤ j ∧ (∀ b, v.ownBlock = some b → tag b = tOut) ∧ Match (ps.map (·.1)) L
/-- The state behind it. -/
structure PState (w wr : World) (tag : Nat → Tag) (hd : Nat) (L : List Msg) (c B : Nat) (va vt : Value) (ps : List (Deed × Value)) : Prop where
  one : One w wr tag hd L c
  all : OwnRows wr B va (allOf L)
  row : There w wr w.heap.size vt ps
  late : ∀ b, B ≤ b → tag b = tOut
  outT : ∀ b, vt.ownBlock = some b → tag b = tOut
section
variable {w wr w' : World} {tag : Nat → Tag} {hd : Nat} {L : List Msg} {c B : Nat} {va vt : Value} {ps : List (Deed × Value)}
theorem PState.stay (h : PState w wr tag hd L c B va vt ps) (hT : Th w' tag hd L c) (hO : Off (Mut tag) wr w') : PState w w' tag hd L c B va vt ps :=
  ⟨h.one.stay hT hO, h.all.off fun b hb hl => hO.block b hl fun h' => h'.1 (h.late b hb), h.row.block fun b e => hO.block b (h.row.row.lt b e).2 fun h' => h'.1 (h.outT b e), h.late, h.outT⟩
theorem PState.below (h : PState w wr tag hd L c B va vt ps) (hb : Below wr.heap.size wr w') : PState w w' tag hd L c B va vt ps :=
  ⟨h.one.below hb, h.all.off fun b _ hl => hb.block b hl, h.row.block fun b e => hb.block b (h.row.row.lt b e).2, h.late, h.outT⟩
theorem PState.drewN (h : PState w wr tag hd L c B va vt ps) (k : Nat) : PState w (wr.drewN k) tag hd L c B va vt ps := h.below ⟨rfl, rfl, rfl, Nat.le_refl _, fun _ _ => rfl⟩
theorem Th.ids {L : List Msg} (h : Th wr tag hd L c) : ∀ m, m ∈ L → I64 m.id := by
  obtain ⟨nd, N, T, nm, live, num, tm, up, root, dep, grp, tl, hp, rfl⟩ := h
  intro m hm
  obtain ⟨g, hg⟩ := mem_msgs.1 hm
  have := hp.fine m g hg
  exact ⟨by omega, this.2.1⟩
end
/-- List q of the conversations, in memory. -/
def RowAt (wr : World) (B g gx q gn xc : Nat) (l : List Int) : Prop := B ≤ g ∧ g < wr.heap.size ∧ B ≤ gx ∧ gx < wr.heap.size ∧ gn = l.length ∧ gn ≤ xc ∧ xc ≤ maxLen ∧ wr.cell? ⟨g, q, none⟩ = some (.slice (some ⟨gx, 0, none⟩) gn xc) ∧ ∀ t (ht : t < l.length), wr.cell? ⟨gx, t, none⟩ = some (.int .i64 l[t])
theorem RowAt.keep {wr w' : World} {B g gx q gn xc : Nat} {l : List Int} (h : RowAt wr B g gx q gn xc l) (hs : wr.heap.size ≤ w'.heap.size) (hk : ∀ b, B ≤ b → b < wr.heap.size → w'.heap[b]? = wr.heap[b]?) : RowAt w' B g gx q gn xc l := by
  obtain ⟨h1, h2, h3, h4, h5, h6, h7, h8, h9⟩ := h
  exact ⟨h1, by omega, h3, by omega, h5, h6, h7, (World.cell?_of_block (a := ⟨g, q, none⟩) (hk g h1 h2)).trans h8, fun t ht => (World.cell?_of_block (a := ⟨gx, t, none⟩) (hk gx h3 h4)).trans (h9 t ht)⟩
theorem RowAt.stay {w wr w' : World} {tag : Nat → Tag} {hd : Nat} {L : List Msg} {c B : Nat} {va vt : Value} {ps : List (Deed × Value)} {g gx q gn xc : Nat} {l : List Int} (h : RowAt wr B g gx q gn xc l) (hP : PState w wr tag hd L c B va vt ps) (hO : Off (Mut tag) wr w') : RowAt w' B g gx q gn xc l :=
  h.keep hO.size fun b hb hl => hO.block b hl fun h' => h'.1 (hP.late b hb)
theorem RowAt.below {wr w' : World} {B g gx q gn xc : Nat} {l : List Int} (h : RowAt wr B g gx q gn xc l) (hb : Below wr.heap.size wr w') : RowAt w' B g gx q gn xc l := h.keep hb.size fun b _ hl => hb.block b hl
theorem flat_succ {ll : List (List Int)} {i : Nat} (hi : i < ll.length) : (ll.take (i + 1)).flatten.length = (ll.take i).flatten.length + ll[i].length := by
  rw [List.take_succ_eq_append_getElem hi, List.flatten_append, List.length_append]
  simp

theorem with_panic {P : Program} {id : Nat} {ops : Array Oper} {b : Bool} {Q : Exit → Act → World → Prop} {a : Act} {w : World} (h : ∀ c a t v w, Q (.panic c) (Act.put a (some t) v) w → Q (.panic c) a w) (k : (∀ c a t v w, Q (.panic c) (Act.put a (some t) v) w → Q (.panic c) a w) → (Code.region id ops b).wp P Q a w) : (Code.region id ops b).wp P Q a w := k h
theorem PState.va {w wr : World} {tag : Nat → Tag} {hd : Nat} {L : List Msg} {c B : Nat} {va : Value} {VA : Option Addr} {pn vcap : Nat} {ps : List (Deed × Value)} (h : PState w wr tag hd L c B va (.slice VA pn vcap) ps) {u : Nat} (hu : u < ps.length) : ∃ gv, VA = some ⟨gv, 0, none⟩ := by
  obtain ⟨A, cap, e, -, -, hc⟩ := h.row.at_
  obtain ⟨g, e2, -⟩ := hc u hu
  injection e with e _ _
  exact ⟨g, e.trans e2⟩
def DeedAt (wr : World) (gv o : Nat) (a : Deed) (v : Value) : Prop := wr.cell? ⟨gv, o, none⟩ = some (.int .i64 a.do_) ∧ wr.cell? ⟨gv, o + 1, none⟩ = some (.int .i64 a.id) ∧ wr.cell? ⟨gv, o + 2, none⟩ = some (.string a.own) ∧ wr.cell? ⟨gv, o + 3, none⟩ = some v ∧ wr.cell? ⟨gv, o + 4, none⟩ = some (.string a.base)
theorem PState.deed {w wr : World} {tag : Nat → Tag} {hd : Nat} {L : List Msg} {c B gv : Nat} {va : Value} {pn vcap : Nat} {ps : List (Deed × Value)} (h : PState w wr tag hd L c B va (.slice (some ⟨gv, 0, none⟩) pn vcap) ps) {u : Nat} (hu : u < ps.length) : DeedAt wr gv (u * 5) ps[u].1 ps[u].2 := by
  obtain ⟨A, cap, e, -, -, hc⟩ := h.row.at_
  obtain ⟨g, e2, -, -, h0, h1, h2, h3, h4⟩ := hc u hu
  injection e with e _ _
  rw [e2] at e
  injection e with e
  injection e with e _ _
  subst e
  exact ⟨h0, h1, h2, h3, h4⟩
theorem one_new (w8 : World) (v : Value) (T : TypeId) : (w8.alloc (.cells #[v] T)).cell? ⟨w8.heap.size, 0, none⟩ = some v := by
  have h := (MapKept.heap_alloc w8 (.cells #[v] T)).1
  unfold World.cell?
  rw [h]
  rfl
theorem one_list {W : World} {A : Addr} {X : Option Addr} {x c : Nat} {l : List Int} (hb : A.block < W.heap.size) (hc : W.cell? A = some (.slice X x c)) (hx : x ≤ 1000000) (hI : Ints W W.heap.size X x l) : Lists W (some A) 1 [l] := by
  refine ⟨rfl, fun k hk => ?_⟩
  have h0 : k = 0 := by simpa using hk
  subst h0
  exact ⟨A, X, x, c, rfl, hb, by simpa [Addr.add] using hc, hx, hI⟩
theorem row_list {W : World} {B g gx q gn xc : Nat} {l : List Int} (h : RowAt W B g gx q gn xc l) (hI : I64s l) (hn : gn ≤ 1000000) : Lists W (some ⟨g, q, none⟩) 1 [l] := by
  obtain ⟨h1, h2, h3, h4, h5, h6, h7, h8, h9⟩ := h
  refine one_list h2 h8 hn ⟨h5, hI, .inr ⟨⟨gx, 0, none⟩, rfl, h4, fun j u hu => ?_⟩⟩
  have hj : j < l.length := by
    have := (List.getElem?_eq_some_iff.1 hu).1
    simpa [iv] using this
  have hu2 : u = .int .i64 l[j] := by
    have h10 : (iv l)[j]? = some (.int .i64 l[j]) := by simp [iv, hj]
    rw [h10] at hu; exact (Option.some.inj hu).symm
  rw [hu2, ← h9 j hj]
  by_cases e0 : j = 0
  · subst e0; rfl
  · simp [Addr.add, e0]
set_option maxRecDepth 100000 in
set_option maxHeartbeats 40000000 in
theorem parts_any (A : Option Addr) (n c : Nat) (l : List Deed) (w : World) (h : Deeds w w.heap.size A n l) (hn : n ≤ c) (hc : c ≤ maxLen) :
    Calls Try.prog 5 #[.slice A n c] w (TellsPost w) := by
  have H := Lib.hid h
  have HN := Lib.hid h.1
  clear h
  go_enter Try.func5, Try.ntmps5
  go_wp2_with fail
  refine (small_any w).mono ?_
  rintro e w1 ⟨rfl, hb1⟩
  have HB1 := Lib.hid hb1
  clear hb1
  go_wp2_with fail
  refine (new_any w1).mono ?_
  intro e w2 h2
  have h2' := One.new HB1.out h2
  obtain ⟨rfl, -, -⟩ := h2
  obtain ⟨hd, hhd⟩ : ∃ x, w1.heap.size + 2 = x := ⟨_, rfl⟩
  rw [hhd] at h2' ⊢
  have H2 := Lib.hid h2'
  have HBEL := Lib.hid h2'.bel
  clear h2' hhd
  go_wp2_with fail
  refine (few_any A n c l w2 (deeds_more (w' := w2) (H.out.below HBEL.out) HBEL.out.size) hn hc).mono ?_
  rintro e w4 ⟨b, rfl, hfew, rfl⟩
  cases b with
  | false =>
    clear hfew
    go_wp2
    go_ret
    exact ⟨rfl, HBEL.out⟩
  | true =>
    have HFEW := Lib.hid (hfew rfl)
    clear hfew
    have hn40 : n ≤ 40 := by have := HFEW.out.1; rw [← HN.out] at this; exact this
    go_wp2
    go_loopw [5, 6] (fun v i wr => ∃ j : Nat, j ≤ n ∧ i = .int .i64 (j : Int) ∧ Hid (AddsRel w hd j v wr)) (fun _ i _ => n - (intOf i).toNat)
    case atStart => exact ⟨0, Nat.zero_le _, rfl, [], [], _, H2.out, Nat.le_refl _, There.nil_ _ _ _, Nat.le_refl _, (fun b e => by cases e), Match.nil_⟩
    case round =>
      obtain ⟨j, hj, rfl, hR⟩ := hrel
      obtain ⟨L, ps, tag, hB, hLj, hT, hpj, hvb, hM⟩ := hR.out
      obtain ⟨VA, vcap, rfl, hv1, hv2, hvc⟩ := hT.at_
      obtain ⟨pn, hpn⟩ : ∃ x, ps.length = x := ⟨_, rfl⟩
      rw [hpn] at hT hpj hv1 hvb ⊢
      have HB := Lib.hid hB
      have HT := Lib.hid hT
      have HVB := Lib.hid hvb
      have HM := Lib.hid hM
      have HPN := Lib.hid hpn
      clear hR hB hT hvb hM hpn hvc
      by_cases hjn : j < n
      · have hj2 : (j : Int) < n := by omega
        have hjl : j < l.length := by rw [← HN.out]; exact hjn
        have h8 := HFEW.out.2 _ (List.getElem_mem hjl)
        obtain ⟨ad, RA, rn, rc, rfl, hbl, hfit, d0, d1, d2, d3, d4, hr⟩ := (H.out.below HB.out.bel).2 j hjl
        have hrw := (H.out.2 j hjl)
        obtain ⟨a, ha⟩ : ∃ a, l[j] = a := ⟨_, rfl⟩
        rw [ha] at hfit d0 d1 d2 d4 hr h8
        have HR0 := Lib.hid hr
        have HR := Lib.hid (hr.more HB.out.bel.size)
        have HFIT := Lib.hid hfit
        have HBL := Lib.hid hbl
        have HC0 := Lib.hid (And.intro d0 (And.intro d1 (And.intro d2 (And.intro d3 d4))))
        have hkd : KeptDeed w (a, .slice RA rn rc) := by
          obtain ⟨ad', RA', rn', rc', e, q1, q2, q3, q4, q5, q6, q7, q8⟩ := hrw
          rw [ha] at q2 q8
          obtain rfl := Option.some.inj e
          have q9 : w.cell? ⟨(ad.add (j * 5)).block, (ad.add (j * 5)).off + 3, none⟩ = wr.cell? ⟨(ad.add (j * 5)).block, (ad.add (j * 5)).off + 3, none⟩ := (HB.out.bel.cell (p := ⟨(ad.add (j * 5)).block, (ad.add (j * 5)).off + 3, none⟩) q1).symm
          rw [q9, d3] at q6
          injection q6 with q6
          injection q6 with q6 q7' q8'
          subst q6; subst q7'; subst q8'
          exact ⟨q2, h8, _, _, _, rfl, q8⟩
        have HKD := Lib.hid hkd
        clear hr hfit hbl ha hrw hkd
        by_cases h1 : a.do_ = 1
        · have hd1 : (a.do_ == 1) = true := by simpa using h1
          clear h1
          go_wp2
          go_roundw
          case rel =>
            refine ⟨j + 1, by omega, by go_num, L, ps, tag, ⟨HB.out.th.mono (by omega), HB.out.old, HB.out.bel⟩, by omega, HT.out, by rw [HPN.out]; omega, HVB.out, HM.out⟩
          case measure => simp [intOf] <;> omega
        · have hd1 : (a.do_ == 1) = false := by simpa using h1
          have HD := Lib.hid h1
          clear h1
          go_wp2_with fail
          refine (do_any a RA rn rc wr HB.out.th HFIT.out HR.out h8 (by omega) (by omega)).mono ?_
          rintro e w5 ⟨rfl, tag5, hth, hO, hG⟩
          have hB5 := HB.out.turn hth hO hG
          have HB5 := Lib.hid hB5
          have hold : ∀ p : Addr, p.block < w.heap.size → w5.cell? p = wr.cell? p := fun p hp => (HB5.out.bel.cell hp).trans (HB.out.bel.cell hp).symm
          have d0 := (hold _ HBL.out).trans HC0.out.1
          have d1 := (hold ⟨(ad.add (j * 5)).block, (ad.add (j * 5)).off + 1, none⟩ HBL.out).trans HC0.out.2.1
          have d2 := (hold ⟨(ad.add (j * 5)).block, (ad.add (j * 5)).off + 2, none⟩ HBL.out).trans HC0.out.2.2.1
          have d3 := (hold ⟨(ad.add (j * 5)).block, (ad.add (j * 5)).off + 3, none⟩ HBL.out).trans HC0.out.2.2.2.1
          have d4 := (hold ⟨(ad.add (j * 5)).block, (ad.add (j * 5)).off + 4, none⟩ HBL.out).trans HC0.out.2.2.2.2
          have HT5 := Lib.hid (HT.out.block (w' := w5) fun b e => hO.block b (HT.out.row.lt b e).2 fun h => h.1 (HVB.out b e))
          have HVB5 := Lib.hid (show ∀ b, (Value.slice VA pn vcap).ownBlock = some b → tag5 b = tOut from fun b e => (hG b (HT.out.row.lt b e).2).1 (HVB.out b e))
          obtain ⟨er, her⟩ : ∃ x, stepErr L a = x := ⟨_, rfl⟩
          rw [her]
          have HER := Lib.hid her
          have hMl : (stepL L a).length ≤ j + 1 := by have := stepL_le L a; omega
          have hs5 := HB5.out.bel.size
          clear hth hO hG hold hB5 her HC0 HR HR0
          by_cases he : er = 0
          · have hd2 : (er == 0) = true := by simpa using he
            have HE := Lib.hid he
            clear he
            go_wp2_with (at_builtin; go_must (refine wpList_deed HT5.out hs5 HKD.out (by rw [HPN.out]; omega) rfl (.tmp 58) (.tmp 63) 1 rfl rfl rfl ?_); intro A6 n6 cap6 w6 hn6 hT6 hg6 hat6; have H6 := Lib.hid hT6; have HN6 := Lib.hid hn6; have HG6 := Lib.hid hg6; have HAT6 := Lib.hid hat6; clear hn6 hT6 hg6 hat6)
            go_roundw
            case rel =>
              have hb6 : Below w.heap.size w w6 := HB5.out.bel.grown HG6.out hs5 (fun k e => (HT5.out.row.lt k e).1)
              have hO6 : Off (fun b => (Value.slice VA pn vcap).ownBlock = some b) w5 w6 := (Off.refl _ w5).grown HG6.out fun k e => .inl e
              refine ⟨j + 1, by omega, by go_num, stepL L a, ps ++ [(a, .slice RA rn rc)], tag5, ?_, hMl, H6.out, by rw [List.length_append, HPN.out]; simp; omega, fun b e => ?_, ?_⟩
              · rw [show 900 * (j + 1) = 900 * j + 900 by omega]
                exact ⟨HB5.out.th.off hO6 fun b e => HVB5.out b e, HB5.out.old, hb6⟩
              · rcases HAT6.out with h | ⟨k, h, hk⟩
                · exact HVB5.out b (h.symm.trans e)
                · have e2 : k = b := Option.some.inj (h.symm.trans e)
                  subst e2
                  exact HB5.out.th.fresh k hk
              · rw [List.map_append]
                exact HM.out.add HD.out (HER.out.trans HE.out)
            case measure => simp [intOf] <;> omega
          · have hd2 : (er == 0) = false := by simpa using he
            have HE := Lib.hid he
            clear he
            go_wp2
            go_roundw
            case rel =>
              refine ⟨j + 1, by omega, by go_num, stepL L a, ps, tag5, ?_, hMl, HT5.out, by rw [HPN.out]; omega, HVB5.out, HM.out.same HD.out (by rw [HER.out]; exact HE.out)⟩
              rw [show 900 * (j + 1) = 900 * j + 900 by omega]
              exact HB5.out
            case measure => simp [intOf] <;> omega
      · obtain rfl : j = n := by omega
        have hL40 : L.length ≤ 40 := by omega
        go_wp2_with fail
        refine (all_any wr HB.out.th (by omega)).mono ?_
        rintro e w6 ⟨va, rfl, hva, hb6⟩
        have hP0 : PState w w6 tag hd L (900 * j) wr.heap.size va (.slice VA pn vcap) ps := ⟨HB.out.below hb6, hva, HT.out.block fun b e => hb6.block b (HT.out.row.lt b e).2, HB.out.th.fresh, HVB.out⟩
        have hLA := HB.out.th.asc
        have hids := HB.out.th.ids
        have hflat := all_flat hLA
        obtain ⟨XA, xcap, rfl, hx1, hx2, -⟩ := hva.cells
        obtain ⟨B, hBB⟩ : ∃ B, wr.heap.size = B := ⟨_, rfl⟩
        rw [hBB] at hP0
        have hal := allOf_le L
        obtain ⟨an, han⟩ : ∃ x, (allOf L).length = x := ⟨_, rfl⟩
        rw [han] at hP0 hal hx1 ⊢
        have HP0 := Lib.hid hP0
        have HLA := Lib.hid hLA
        have HIDS := Lib.hid hids
        have HFL := Lib.hid hflat
        have HAN := Lib.hid han
        clear hb6 hva hP0 hLA hids hflat hBB han
        go_wp2
        go_loopw [10, 11] (fun m i wr' => ∃ q : Nat, q ≤ an ∧ i = .int .i64 (q : Int) ∧ m = .int .i64 ((((allOf L).take q).flatten.length : Nat) : Int) ∧ Hid (PState w wr' tag hd L (900 * j) B (.slice XA an xcap) (.slice VA pn vcap) ps)) (fun _ i _ => an - (intOf i).toNat)
        case atStart => exact ⟨0, Nat.zero_le _, rfl, by simp, HP0.out⟩
        case round =>
          obtain ⟨q, hq, rfl, rfl, HP⟩ := hrel
          by_cases hqn : q < an
          · have hq2 : (q : Int) < an := by omega
            have hql : q < (allOf L).length := by rw [HAN.out]; exact hqn
            have hgm := List.getElem_mem hql
            have hfs := flat_succ hql
            obtain ⟨XA2, xc2, ev, -, -, hcells⟩ := HP.out.all.cells
            obtain ⟨gl0, hgl0⟩ : ∃ g, (allOf L)[q] = g := ⟨_, rfl⟩
            have hcq := hcells q hql
            rw [hgl0] at hgm hfs
            obtain ⟨h0, r0, hcons⟩ := all_cons HLA.out hgm
            obtain ⟨g, gx, xc, ega, c0o, hx3o, hx4, hBg, hgl, hBx, hxl, hct⟩ := hcq (by rw [hgl0, hcons]; simp)
            have hra : RowAt wr B g gx q gl0.length xc gl0 := by
              refine ⟨hBg, hgl, hBx, hxl, rfl, by rw [← hgl0]; exact hx3o, hx4, by rw [← hgl0]; exact c0o, fun t ht => ?_⟩
              have := hct t (by rw [hgl0]; exact ht)
              simpa only [hgl0] using this
            injection ev with ev en ec
            subst ev
            subst ec
            clear en
            subst ega
            have hgle := allOf_each hgm
            obtain ⟨gn, hgn⟩ : ∃ x, gl0.length = x := ⟨_, rfl⟩
            rw [hgn] at hra hfs hgle
            clear c0o hx3o
            have c0 := hra.2.2.2.2.2.2.2.1
            have hx3 := hra.2.2.2.2.2.1
            have HRA := Lib.hid hra
            have HGM := Lib.hid hgm
            have HFS := Lib.hid hfs
            have HCO := Lib.hid hcons
            have HGN := Lib.hid hgn
            have HG0 := Lib.hid hgl0
            have hsum : ((allOf L).take q).flatten.length ≤ 40 := by
              have h9 := HFL.out
              have h8 : ((allOf L).take q).flatten.length ≤ (allOf L).flatten.length := by
                conv => rhs; rw [← List.take_append_drop q (allOf L), List.flatten_append, List.length_append]
                omega
              omega
            obtain ⟨sm, hsm⟩ : ∃ x, ((allOf L).take q).flatten.length = x := ⟨_, rfl⟩
            rw [hsm] at hsum ⊢
            have HSM := Lib.hid hsm
            clear hcq hcells hct hra hgm hfs hcons hgn hgl0 hsm hx4 hBg hgl hBx hxl
            go_wp2
            go_loopw [12] (fun k wr' => ∃ t : Nat, t ≤ gn ∧ k = .int .i64 (t : Int) ∧ Hid (PState w wr' tag hd L (900 * j) B (.slice (some ⟨g, 0, none⟩) an xcap) (.slice VA pn vcap) ps) ∧ Hid (RowAt wr' B g gx q gn xc gl0)) (fun k _ => gn - (intOf k).toNat)
            case atStart => exact ⟨0, Nat.zero_le _, rfl, HP.out, HRA.out⟩
            case round =>
              obtain ⟨t, ht, rfl, HPR, HRR⟩ := hrel
              have c1 := HRR.out.2.2.2.2.2.2.2.1
              by_cases htn : t < gn
              · have ht2 : (t : Int) < gn := by omega
                have htl : t < gl0.length := by rw [HGN.out]; exact htn
                have c2 := HRR.out.2.2.2.2.2.2.2.2 t htl
                obtain ⟨y, hy⟩ : ∃ y, gl0[t] = y := ⟨_, rfl⟩
                have hym : y ∈ gl0 := by rw [← hy]; exact List.getElem_mem htl
                rw [hy] at c2
                have hof : ofL L y = (h0, true) := by
                  have h7 := HGM.out
                  rw [HCO.out] at h7 hym
                  exact elem_of HLA.out h7 hym
                have hgy := (elem_group HLA.out HGM.out hym).1
                have hyb := elem_bounds HLA.out HIDS.out HGM.out hym
                have HY := Lib.hid hy
                have HGY := Lib.hid hgy
                have HYB := Lib.hid hyb
                have HOF := Lib.hid hof
                clear hy hym hof hgy hyb
                go_wp2_with fail
                refine (of_any y wr HPR.out.one.th (by omega) HYB.out).mono ?_
                rintro e w7 ⟨rfl, hth, hO⟩
                rw [HOF.out]
                have HP7 := Lib.hid (HPR.out.stay hth hO)
                have HR7 := Lib.hid (HRR.out.stay HPR.out hO)
                clear c1 c2 hth hO
                have c1 := HR7.out.2.2.2.2.2.2.2.1
                have c2 := HR7.out.2.2.2.2.2.2.2.2 t htl
                rw [HY.out] at c2
                have c3 : w7.cell? ⟨gx, 0, none⟩ = some (.int .i64 h0) := by
                  have h7 := HR7.out.2.2.2.2.2.2.2.2 0 (by omega)
                  have h6 : gl0[0]'(by omega) = h0 := by simp only [HCO.out, List.getElem_cons_zero]
                  rw [h6] at h7; exact h7
                have hgn0 : (0 : Int) < gn := by omega
                have hxl : gx < w7.heap.size := HR7.out.2.2.2.1
                have hgl9 : g < w7.heap.size := HR7.out.2.1
                have HQX := Lib.hid (show q < xcap from by omega)
                by_cases ht0 : t = 0
                · subst ht0
                  have hyh : y = h0 := by
                    rw [c2] at c3
                    injection c3 with c3
                    injection c3
                  subst hyh
                  clear c2 ht2
                  have HP8 := Lib.hid (HP7.out.below (w' := w7.drew) ⟨rfl, rfl, rfl, Nat.le_refl _, fun _ _ => rfl⟩)
                  have HR8 := Lib.hid (HR7.out.below (w' := w7.drew) ⟨rfl, rfl, rfl, Nat.le_refl _, fun _ _ => rfl⟩)
                  go_wp2
                  go_cut [153] (fun v wc => v = .bool false ∧ Hid (PState w wc tag hd L (900 * j) B (.slice (some ⟨g, 0, none⟩) an xcap) (.slice VA pn vcap) ps) ∧ Hid (RowAt wc B g gx q gn xc gl0))
                  case first =>
                    refine with_panic (fun _ _ _ _ _ h => h) (fun hQ0 => ?_)
                    have HQ0 := Lib.hid hQ0
                    clear hQ0
                    have hqa : (q : Int) + 1 ≤ xcap := by have := HQX.out; omega
                    have hqb : ¬ xcap = q := by have := HQX.out; omega
                    have z1 : 0 ≤ (q : Int) + 1 := by omega
                    have t1 : ((q : Int) + 1).toNat = q + 1 := by omega
                    have w1 : IntKind.i64.wrap ((q : Int) + 1) = q + 1 := IntWalk.i64_in _ (by omega)
                    as_aux_lemma =>
                      refine wp_region_run (by kernel_rfl) ?_
                      refine AnyS.seg (fuel := 18) 0 35 (by kernel_rfl) (by kernel_rfl) (by kernel_rfl) ?_
                      simp only [List.drop_zero, List.take_succ_cons, List.take_zero]
                      iterate 35 (refine stillS_step (fun K hK => ?_); go_simp; refine hK _ ?_; clear hK K)
                      refine stillS_nil ?_
                      refine AnyS.take HQ0.out (t := 146) (i := 45) (v := ?_) rfl rfl (by kernel_rfl) (by kernel_rfl) (by kernel_rfl) (Or.inl ⟨by rfl, ?_⟩) ?_
                      rotate_left
                      · (intro w; go_simp; rfl)
                      go_simp
                      refine AnyS.take HQ0.out (t := 147) (i := 46) (v := ?_) rfl rfl (by kernel_rfl) (by kernel_rfl) (by kernel_rfl) (Or.inl ⟨by rfl, ?_⟩) ?_
                      rotate_left
                      · (intro w; go_simp; rfl)
                      go_simp
                      refine AnyS.take HQ0.out (t := 148) (i := 47) (v := ?_) rfl rfl (by kernel_rfl) (by kernel_rfl) (by kernel_rfl) (Or.inl ⟨by rfl, ?_⟩) ?_
                      rotate_left
                      · (intro w; go_simp; rfl)
                      go_simp
                      refine AnyS.take HQ0.out (t := 149) (i := 48) (v := ?_) rfl rfl (by kernel_rfl) (by kernel_rfl) (by kernel_rfl) (Or.inl ⟨by rfl, ?_⟩) ?_
                      rotate_left
                      · (intro w; go_simp; rfl)
                      go_simp
                      refine AnyS.take HQ0.out (t := 150) (i := 49) (v := ?_) rfl rfl (by kernel_rfl) (by kernel_rfl) (by kernel_rfl) (Or.inl ⟨by rfl, ?_⟩) ?_
                      rotate_left
                      · (intro w; go_simp; rfl)
                      go_simp
                      refine AnyS.seg (fuel := 5) 35 8 (by kernel_rfl) (by kernel_rfl) (by kernel_rfl) ?_
                      simp only [List.drop_succ_cons, List.drop_zero, List.take_succ_cons, List.take_zero]
                      iterate 8 (refine stillS_step (fun K hK => ?_); go_simp; refine hK _ ?_; clear hK K)
                      refine stillS_nil ?_
                      go_simp
                      refine ⟨wpAny_ready (rs := [43]) (by kernel_rfl) (by simp) ?_⟩
                      refine AllReady.cons rfl (fun K hK => ?_) AllReady.nil
                      go_simp
                      refine (group_any y _ HP8.out.one.th (by omega) HYB.out).mono ?_
                      rintro e w8 ⟨v, rfl, hv, hth, hO⟩
                      have HP9 := Lib.hid (HP8.out.stay hth hO)
                      have HR9 := Lib.hid (HR8.out.stay HP8.out hO)
                      obtain ⟨GA, gc, rfl, hga1, hga2, hga3⟩ := hv.ints
                      rw [HGY.out] at hga1 hga3 ⊢
                      rw [HGN.out] at hga1 hga3 ⊢
                      have HGI := Lib.hid hga3
                      clear hv hth hO hga1 hga2 hga3
                      refine hK _ _ ?_
                      clear hK K
                      refine AnyS.out ?_
                      go_simp
                      refine ⟨wpAny_ready (rs := [44]) (by kernel_rfl) (by simp) ?_⟩
                      refine AllReady.cons rfl (fun K hK => ?_) AllReady.nil
                      go_simp
                      refine hK _ _ ?_
                      clear hK K
                      refine AnyS.out ?_
                      go_simp
                      refine ⟨wpAny_ready (rs := [50]) (by kernel_rfl) (by simp) ?_⟩
                      refine AllReady.cons rfl (fun K hK => ?_) AllReady.nil
                      go_simp
                      have HL1 := Lib.hid (one_list (A := ⟨w8.heap.size, 0, none⟩) (W := w8.alloc (.cells #[.slice GA gn gc] 40)) (X := GA) (x := gn) (c := gc) (l := gl0) (by simp) (one_new w8 _ 40) (by have := HGN.out; omega) ((HGI.out.below ((Below.refl _ _).alloc (Nat.le_refl _) _)).more (by simp)))
                      have HL2 := Lib.hid (row_list ((HR9.out).below (w' := w8.alloc (.cells #[.slice GA gn gc] 40)) ((Below.refl _ _).alloc (Nat.le_refl _) _)) (fun z hz => elem_bounds HLA.out HIDS.out HGM.out hz) (by omega))
                      refine (same_any (some ⟨w8.heap.size, 0, none⟩) (some ⟨g, q, none⟩) 1 1 1 (xcap - q) [gl0] [gl0] _ HL1.out HL2.out (by omega)).mono ?_
                      rintro e w9 ⟨rfl, kk, rfl⟩
                      rw [show decide ([gl0] = [gl0]) = true by simp]
                      refine hK _ _ ?_
                      clear hK K
                      refine AnyS.out ?_
                      go_simp
                      refine ⟨wpAny_ready (rs := [51]) (by kernel_rfl) (by simp) ?_⟩
                      refine AllReady.cons rfl (fun K hK => ?_) AllReady.nil
                      go_simp
                      refine hK _ _ ?_
                      clear hK K
                      refine AnyS.out ?_
                      go_simp
                      refine ⟨wpAny_ready (rs := [52]) (by kernel_rfl) (by simp) ?_⟩
                      refine AllReady.cons rfl (fun K hK => ?_) AllReady.nil
                      go_simp
                      refine hK _ _ ?_
                      clear hK K
                      refine AnyS.out ?_
                      go_simp
                      refine AnyS.done (by kernel_rfl) ?_
                      go_wp2
                      go_meet
                      exact ⟨rfl, (HP9.out.below ((Below.refl _ _).alloc (Nat.le_refl _) _)).drewN kk, (HR9.out.below (w' := (w8.alloc (.cells #[.slice GA gn gc] 40)).drewN kk) (by first | exact drewBelow ((Below.refl _ _).alloc (Nat.le_refl _) _) kk | exact ((Off.refl (fun _ => False) w8).alloc _ |>.drewN kk).below (Nat.le_refl _) (fun _ h => h.elim)))⟩
                  case rest =>
                    obtain ⟨rfl, HPC, HRC⟩ := hcut
                    go_wp2
                    go_roundw
                    case rel => exact ⟨0 + 1, by omega, by go_num, HPC.out, HRC.out⟩
                    case measure => simp [intOf] <;> omega
                · have ht1 : 1 ≤ t := by omega
                  have c4 := HR7.out.2.2.2.2.2.2.2.2 (t - 1) (by omega)
                  have hpw := List.pairwise_iff_getElem.1 (all_each_asc HLA.out HGM.out) (t - 1) t (by omega) htl (by omega)
                  obtain ⟨y0, hy0⟩ : ∃ y0, gl0[t - 1]'(by omega) = y0 := ⟨_, rfl⟩
                  rw [hy0] at c4 hpw
                  rw [HY.out] at hpw
                  have hnle : decide (y ≤ y0) = false := decide_eq_false (by omega)
                  have ht3 : (0 : Int) < (t : Int) := by omega
                  have hgn3 : 0 < gn := by omega
                  have ht5 : 0 < t := by omega
                  have ht4 : (1 : Int) ≤ (t : Int) := by omega
                  have z2 : 0 ≤ (t : Int) - 1 := by omega
                  have z3 : (t : Int) - 1 < gn := by omega
                  have t2 : ((t : Int) - 1).toNat = t - 1 := by omega
                  have w2 : IntKind.i64.wrap ((t : Int) - 1) = t - 1 := IntWalk.i64_in _ (by omega)
                  clear hy0 ht0
                  clear hpw
                  have HP8 := Lib.hid (HP7.out.below (w' := w7.drew) ⟨rfl, rfl, rfl, Nat.le_refl _, fun _ _ => rfl⟩)
                  have HR8 := Lib.hid (HR7.out.below (w' := w7.drew) ⟨rfl, rfl, rfl, Nat.le_refl _, fun _ _ => rfl⟩)
                  go_wp2
                  go_cut [153] (fun v wc => v = .bool false ∧ Hid (PState w wc tag hd L (900 * j) B (.slice (some ⟨g, 0, none⟩) an xcap) (.slice VA pn vcap) ps) ∧ Hid (RowAt wc B g gx q gn xc gl0))
                  case first =>
                    refine with_panic (fun _ _ _ _ _ h => h) (fun hQ0 => ?_)
                    have HQ0 := Lib.hid hQ0
                    clear hQ0
                    have hqa : (q : Int) + 1 ≤ xcap := by have := HQX.out; omega
                    have hqb : ¬ xcap = q := by have := HQX.out; omega
                    have z1 : 0 ≤ (q : Int) + 1 := by omega
                    have t1 : ((q : Int) + 1).toNat = q + 1 := by omega
                    have w1 : IntKind.i64.wrap ((q : Int) + 1) = q + 1 := IntWalk.i64_in _ (by omega)
                    as_aux_lemma =>
                      refine wp_region_run (by kernel_rfl) ?_
                      refine AnyS.seg (fuel := 18) 0 35 (by kernel_rfl) (by kernel_rfl) (by kernel_rfl) ?_
                      simp only [List.drop_zero, List.take_succ_cons, List.take_zero]
                      iterate 35 (refine stillS_step (fun K hK => ?_); go_simp; refine hK _ ?_; clear hK K)
                      refine stillS_nil ?_
                      refine AnyS.take HQ0.out (t := 146) (i := 45) (v := ?_) rfl rfl (by kernel_rfl) (by kernel_rfl) (by kernel_rfl) (Or.inl ⟨by rfl, ?_⟩) ?_
                      rotate_left
                      · (intro w; go_simp; rfl)
                      go_simp
                      refine AnyS.take HQ0.out (t := 147) (i := 46) (v := ?_) rfl rfl (by kernel_rfl) (by kernel_rfl) (by kernel_rfl) (Or.inl ⟨by rfl, ?_⟩) ?_
                      rotate_left
                      · (intro w; go_simp; rfl)
                      go_simp
                      refine AnyS.take HQ0.out (t := 148) (i := 47) (v := ?_) rfl rfl (by kernel_rfl) (by kernel_rfl) (by kernel_rfl) (Or.inl ⟨by rfl, ?_⟩) ?_
                      rotate_left
                      · (intro w; go_simp; rfl)
                      go_simp
                      refine AnyS.take HQ0.out (t := 149) (i := 48) (v := ?_) rfl rfl (by kernel_rfl) (by kernel_rfl) (by kernel_rfl) (Or.inl ⟨by rfl, ?_⟩) ?_
                      rotate_left
                      · (intro w; go_simp; rfl)
                      go_simp
                      refine AnyS.take HQ0.out (t := 150) (i := 49) (v := ?_) rfl rfl (by kernel_rfl) (by kernel_rfl) (by kernel_rfl) (Or.inl ⟨by rfl, ?_⟩) ?_
                      rotate_left
                      · (intro w; go_simp; rfl)
                      go_simp
                      refine AnyS.seg (fuel := 5) 35 8 (by kernel_rfl) (by kernel_rfl) (by kernel_rfl) ?_
                      simp only [List.drop_succ_cons, List.drop_zero, List.take_succ_cons, List.take_zero]
                      iterate 8 (refine stillS_step (fun K hK => ?_); go_simp; refine hK _ ?_; clear hK K)
                      refine stillS_nil ?_
                      go_simp
                      refine ⟨wpAny_ready (rs := [43]) (by kernel_rfl) (by simp) ?_⟩
                      refine AllReady.cons rfl (fun K hK => ?_) AllReady.nil
                      go_simp
                      refine (group_any y _ HP8.out.one.th (by omega) HYB.out).mono ?_
                      rintro e w8 ⟨v, rfl, hv, hth, hO⟩
                      have HP9 := Lib.hid (HP8.out.stay hth hO)
                      have HR9 := Lib.hid (HR8.out.stay HP8.out hO)
                      obtain ⟨GA, gc, rfl, hga1, hga2, hga3⟩ := hv.ints
                      rw [HGY.out] at hga1 hga3 ⊢
                      rw [HGN.out] at hga1 hga3 ⊢
                      have HGI := Lib.hid hga3
                      clear hv hth hO hga1 hga2 hga3
                      refine hK _ _ ?_
                      clear hK K
                      refine AnyS.out ?_
                      go_simp
                      refine ⟨wpAny_ready (rs := [44]) (by kernel_rfl) (by simp) ?_⟩
                      refine AllReady.cons rfl (fun K hK => ?_) AllReady.nil
                      go_simp
                      refine hK _ _ ?_
                      clear hK K
                      refine AnyS.out ?_
                      go_simp
                      refine ⟨wpAny_ready (rs := [50]) (by kernel_rfl) (by simp) ?_⟩
                      refine AllReady.cons rfl (fun K hK => ?_) AllReady.nil
                      go_simp
                      have HL1 := Lib.hid (one_list (A := ⟨w8.heap.size, 0, none⟩) (W := w8.alloc (.cells #[.slice GA gn gc] 40)) (X := GA) (x := gn) (c := gc) (l := gl0) (by simp) (one_new w8 _ 40) (by have := HGN.out; omega) ((HGI.out.below ((Below.refl _ _).alloc (Nat.le_refl _) _)).more (by simp)))
                      have HL2 := Lib.hid (row_list ((HR9.out).below (w' := w8.alloc (.cells #[.slice GA gn gc] 40)) ((Below.refl _ _).alloc (Nat.le_refl _) _)) (fun z hz => elem_bounds HLA.out HIDS.out HGM.out hz) (by omega))
                      refine (same_any (some ⟨w8.heap.size, 0, none⟩) (some ⟨g, q, none⟩) 1 1 1 (xcap - q) [gl0] [gl0] _ HL1.out HL2.out (by omega)).mono ?_
                      rintro e w9 ⟨rfl, kk, rfl⟩
                      rw [show decide ([gl0] = [gl0]) = true by simp]
                      refine hK _ _ ?_
                      clear hK K
                      refine AnyS.out ?_
                      go_simp
                      refine ⟨wpAny_ready (rs := [51]) (by kernel_rfl) (by simp) ?_⟩
                      refine AllReady.cons rfl (fun K hK => ?_) AllReady.nil
                      go_simp
                      refine hK _ _ ?_
                      clear hK K
                      refine AnyS.out ?_
                      go_simp
                      refine ⟨wpAny_ready (rs := [52]) (by kernel_rfl) (by simp) ?_⟩
                      refine AllReady.cons rfl (fun K hK => ?_) AllReady.nil
                      go_simp
                      refine hK _ _ ?_
                      clear hK K
                      refine AnyS.out ?_
                      go_simp
                      refine AnyS.done (by kernel_rfl) ?_
                      go_wp2
                      go_meet
                      exact ⟨rfl, (HP9.out.below ((Below.refl _ _).alloc (Nat.le_refl _) _)).drewN kk, (HR9.out.below (w' := (w8.alloc (.cells #[.slice GA gn gc] 40)).drewN kk) (by first | exact drewBelow ((Below.refl _ _).alloc (Nat.le_refl _) _) kk | exact ((Off.refl (fun _ => False) w8).alloc _ |>.drewN kk).below (Nat.le_refl _) (fun _ h => h.elim)))⟩
                  case rest =>
                    obtain ⟨rfl, HPC, HRC⟩ := hcut
                    go_wp2
                    go_roundw
                    case rel => exact ⟨t + 1, by omega, by go_num, HPC.out, HRC.out⟩
                    case measure => simp [intOf] <;> omega
              · obtain rfl : t = gn := by omega
                have HNX := Lib.hid (show ((allOf L).take (q + 1)).flatten.length = sm + t by rw [HFS.out, HSM.out])
                have hpos : 0 < t := by have := HGN.out; rw [HCO.out] at this; simp at this; omega
                have hpos2 : (0 : Int) < (t : Int) := by omega
                have c3 : wr.cell? ⟨gx, 0, none⟩ = some (.int .i64 h0) := by
                  have h7 := HRR.out.2.2.2.2.2.2.2.2 0 (by rw [HCO.out]; simp)
                  have h6 : gl0[0]'(by rw [HCO.out]; simp) = h0 := by simp only [HCO.out, List.getElem_cons_zero]
                  rw [h6] at h7; exact h7
                by_cases hq0 : q = 0
                · have hd0 : ¬ (0 : Int) < (q : Int) := by omega
                  have hd1 : decide (0 < q) = false := by simp; omega
                  have hd2 : decide ((0 : Int) < (q : Int)) = false := by simp; omega
                  clear hq0
                  go_wp2
                  go_quiet (fail)
                  go_wp2
                  go_roundw
                  case rel => exact ⟨q + 1, by omega, by go_num, by rw [HNX.out]; go_num, HPR.out.drewN _⟩
                  case measure => simp [intOf] <;> omega
                · obtain ⟨XA2, xc2, ev, -, -, hcells⟩ := HPR.out.all.cells
                  have hq1l : q - 1 < (allOf L).length := by rw [HAN.out]; omega
                  obtain ⟨gl1, hgl1⟩ : ∃ g, (allOf L)[q - 1] = g := ⟨_, rfl⟩
                  have hcq := hcells (q - 1) hq1l
                  have hgm1 := List.getElem_mem hq1l
                  have hpw := List.pairwise_iff_getElem.1 (allOf_asc HLA.out) (q - 1) q hq1l hql (by omega)
                  simp only [hgl1, HG0.out] at hcq hgm1 hpw
                  obtain ⟨h1, r1, hcons1⟩ := all_cons HLA.out hgm1
                  obtain ⟨g2, gx1, xc1, ega, e0, -, -, -, -, -, -, ect⟩ := hcq (by rw [hcons1]; simp)
                  have e1 := ect 0 (by rw [hcons1]; simp)
                  have h6 : gl1[0]'(by rw [hcons1]; simp) = h1 := by simp only [hcons1, List.getElem_cons_zero]
                  simp only [h6] at e1
                  rw [hcons1, HCO.out] at hpw
                  have hpw2 : h1 < h0 := hpw
                  have hnle : decide (h0 ≤ h1) = false := decide_eq_false (by omega)
                  injection ev with ev ev2 ev3
                  rw [ega] at ev
                  injection ev with ev
                  injection ev with ev ev4 ev5
                  subst ev
                  clear ev2 ev3 ega
                  obtain ⟨n1, hn1⟩ : ∃ n, gl1.length = n := ⟨_, rfl⟩
                  have hn1p : 0 < n1 := by rw [← hn1, hcons1]; simp
                  have hn1q : (0 : Int) < (n1 : Int) := by omega
                  rw [hn1] at e0
                  have hd0 : (0 : Int) < (q : Int) := by omega
                  have hd4 : (1 : Int) ≤ (q : Int) := by omega
                  have hd5 : 0 < q := by omega
                  have hd6 : decide (0 < q) = true := by simp; omega
                  have z2 : 0 ≤ (q : Int) - 1 := by omega
                  have z3 : (q : Int) - 1 < an := by omega
                  have t2 : ((q : Int) - 1).toNat = q - 1 := by omega
                  have w2 : IntKind.i64.wrap ((q : Int) - 1) = q - 1 := IntWalk.i64_in _ (by omega)
                  clear hcells hcq hgm1 hpw hpw2 hcons1 ect h6 hn1 hgl1 hq1l hq0
                  go_wp2
                  refine wp_region_run (by kernel_rfl) ?_
                  refine AnyS.seg (fuel := 0) 0 35 (by kernel_rfl) (by kernel_rfl) (by kernel_rfl) ?_
                  simp only [List.drop_zero, List.take_succ_cons, List.take_zero]
                  iterate 35 (refine stillS_step (fun K hK => ?_); go_simp; refine hK _ ?_; clear hK K)
                  refine stillS_nil ?_
                  go_simp
                  refine AnyS.done (by kernel_rfl) ?_
                  clear z2 z3 t2 w2 hd4
                  go_wp2
                  go_roundw
                  case rel => exact ⟨q + 1, by omega, by go_num, by rw [HNX.out]; go_num, HPR.out.below ⟨rfl, rfl, rfl, Nat.le_refl _, fun _ _ => rfl⟩⟩
                  case measure => simp [intOf] <;> omega
          · obtain rfl : q = an := by omega
            have hmany : ((allOf L).take q).flatten.length = pn := by
              rw [List.take_of_length_le (by rw [HAN.out]; exact Nat.le_refl _), HFL.out, HM.out.len HLA.out, List.length_map, HPN.out]
            rw [hmany]
            clear hmany
            go_wp2
            go_loopw [15] (fun i wr' => ∃ u : Nat, u ≤ pn ∧ i = .int .i64 (u : Int) ∧ Hid (PState w wr' tag hd L (900 * j) B (.slice XA q xcap) (.slice VA pn vcap) ps)) (fun i _ => pn - (intOf i).toNat)
            case atStart => exact ⟨0, Nat.zero_le _, rfl, HP.out⟩
            case round =>
              obtain ⟨u, hu, rfl, HPU⟩ := hrel
              by_cases hup : u < pn
              · have hu2 : (u : Int) < pn := by omega
                have hul : u < ps.length := by rw [HPN.out]; exact hup
                obtain ⟨gv, rfl⟩ := HPU.out.va hul
                go_wp2
                go_loopw [16] (fun k wr' => ∃ v : Nat, v ≤ u ∧ k = .int .i64 (v : Int) ∧ Hid (PState w wr' tag hd L (900 * j) B (.slice XA q xcap) (.slice (some ⟨gv, 0, none⟩) pn vcap) ps)) (fun k _ => u - (intOf k).toNat)
                case atStart => exact ⟨0, Nat.zero_le _, rfl, HPU.out⟩
                case round =>
                  obtain ⟨v, hv, rfl, HPV⟩ := hrel
                  by_cases hvu : v < u
                  · have hv2 : (v : Int) < u := by omega
                    have hv3 : (v : Int) < pn := by omega
                    have hvl : v < ps.length := by omega
                    obtain ⟨⟨a, va⟩, hpa⟩ : ∃ p, ps[u] = p := ⟨_, rfl⟩
                    obtain ⟨⟨b, vb⟩, hpb⟩ : ∃ p, ps[v] = p := ⟨_, rfl⟩
                    have hka := HPV.out.row.each _ (List.getElem_mem hul)
                    have hkb := HPV.out.row.each _ (List.getElem_mem hvl)
                    rw [hpa] at hka
                    rw [hpb] at hkb
                    obtain ⟨hfa, h8a, RA, rn, rc, e1, hra⟩ := hka
                    obtain ⟨hfb, h8b, SA, sn, sc, e2, hrb⟩ := hkb
                    dsimp only at e1 e2 hra hrb hfa hfb h8a h8b
                    subst e1
                    subst e2
                    have HDA := Lib.hid (fun (wx : World) (hx : PState w wx tag hd L (900 * j) B (.slice XA q xcap) (.slice (some ⟨gv, 0, none⟩) pn vcap) ps) => (show DeedAt wx gv (u * 5) a (.slice RA rn rc) by have := hx.deed hul; rw [hpa] at this; exact this))
                    have HDB := Lib.hid (fun (wx : World) (hx : PState w wx tag hd L (900 * j) B (.slice XA q xcap) (.slice (some ⟨gv, 0, none⟩) pn vcap) ps) => (show DeedAt wx gv (v * 5) b (.slice SA sn sc) by have := hx.deed hvl; rw [hpb] at this; exact this))
                    have hma : a ∈ ps.map (·.1) := List.mem_map.2 ⟨_, List.getElem_mem hul, by rw [hpa]⟩
                    have hmb : b ∈ ps.map (·.1) := List.mem_map.2 ⟨_, List.getElem_mem hvl, by rw [hpb]⟩
                    have HSAME := Lib.hid (fun hs hb => HM.out.same_of HLA.out hma hmb hs hb)
                    have HDIFF := Lib.hid (fun hb => HM.out.diff_of HLA.out hma hmb hb)
                    have HRA := Lib.hid hra
                    have HRB := Lib.hid hrb
                    obtain ⟨oa, hoa⟩ : ∃ o, ofL L a.id = o := ⟨_, rfl⟩
                    obtain ⟨ob, hob⟩ : ∃ o, ofL L b.id = o := ⟨_, rfl⟩
                    have HOA := Lib.hid hoa
                    have HOB := Lib.hid hob
                    have d1 := (HDA.out wr HPV.out).2.1
                    clear hpa hpb hra hrb hoa hob hma hmb
                    go_wp2_with fail
                    refine (of_any a.id wr HPV.out.one.th (by omega) hfa.2.1).mono ?_
                    rintro e w7 ⟨rfl, hth, hO⟩
                    rw [HOA.out]
                    have HP7 := Lib.hid (HPV.out.stay hth hO)
                    clear d1 hth hO
                    have d1 := (HDB.out w7 HP7.out).2.1
                    go_wp2_with fail
                    refine (of_any b.id w7 HP7.out.one.th (by omega) hfb.2.1).mono ?_
                    rintro e w8 ⟨rfl, hth, hO⟩
                    rw [HOB.out]
                    have HP8 := Lib.hid (HP7.out.stay hth hO)
                    clear d1 hth hO
                    obtain ⟨a0, a1, a2, a3, a4⟩ := HDA.out w8 HP8.out
                    obtain ⟨b0, b1, b2, b3, b4⟩ := HDB.out w8 HP8.out
                    go_wp2
                    go_cut [268] (fun v wc => v = .bool false ∧ Hid (PState w wc tag hd L (900 * j) B (.slice XA q xcap) (.slice (some ⟨gv, 0, none⟩) pn vcap) ps))
                    case first =>
                      refine wp_region_run (by kernel_rfl) ?_
                      refine AnyS.seg (fuel := 37) 0 8 (by kernel_rfl) (by kernel_rfl) (by kernel_rfl) ?_
                      simp only [List.drop_zero, List.take_succ_cons, List.take_zero]
                      iterate 8 (refine stillS_step (fun K hK => ?_); go_simp; refine hK _ ?_; clear hK K)
                      refine stillS_nil ?_
                      go_simp
                      refine ⟨wpAny_ready (rs := [8]) (by kernel_rfl) (by simp) ?_⟩
                      refine AllReady.cons rfl (fun K hK => ?_) AllReady.nil
                      go_simp
                      refine (shares_any a b RA SA rn rc sn sc w8.drew (by exact (HRA.out.below HP8.out.one.bel).more HP8.out.one.bel.size) (by exact (HRB.out.below HP8.out.one.bel).more HP8.out.one.bel.size) h8a h8b).mono ?_
                      rintro e w9 ⟨r, rfl, hr, hb9⟩
                      have HP9 := Lib.hid (HP8.out.below (w' := w9) ((Below.refl _ _).drew.trans hb9))
                      have HR := Lib.hid hr
                      clear a0 a1 a2 a3 a4 b0 b1 b2 b3 b4 hb9 hr
                      obtain ⟨a0, a1, a2, a3, a4⟩ := HDA.out w9 HP9.out
                      obtain ⟨b0, b1, b2, b3, b4⟩ := HDB.out w9 HP9.out
                      refine hK _ _ ?_
                      clear hK K
                      refine AnyS.out ?_
                      go_simp
                      by_cases hbase : a.base = b.base
                      · have hb1 : (a.base.toList == b.base.toList) = true := by rw [hbase]; simp
                        have hb2 : (a.base.toList != b.base.toList) = false := by rw [hbase]; simp
                        have hb3 : a.base.toList = b.base.toList := by rw [hbase]
                        have HBS := Lib.hid hbase
                        clear hbase
                        cases r with
                        | true =>
                          have hab : oa.1 = ob.1 := by have := HSAME.out (HR.out.1 rfl) HBS.out; rw [HOA.out, HOB.out] at this; exact this
                          have hab1 : (oa.1 == ob.1) = true := by simpa using hab
                          have hab2 : (oa.1 != ob.1) = false := by simpa using hab
                          clear hab
                          as_aux_lemma =>
                            refine AnyS.seg (fuel := 0) 9 36 (by kernel_rfl) (by kernel_rfl) (by kernel_rfl) ?_
                            simp only [List.drop_succ_cons, List.drop_zero, List.take_succ_cons, List.take_zero]
                            iterate 36 (refine stillS_step (fun K hK => ?_); go_simp; refine hK _ ?_; clear hK K)
                            refine stillS_nil ?_
                            go_simp
                            refine AnyS.done (by kernel_rfl) ?_
                            go_wp2
                            go_meet
                            exact ⟨rfl, HP9.out⟩
                        | false =>
                          as_aux_lemma =>
                            refine AnyS.seg (fuel := 0) 9 36 (by kernel_rfl) (by kernel_rfl) (by kernel_rfl) ?_
                            simp only [List.drop_succ_cons, List.drop_zero, List.take_succ_cons, List.take_zero]
                            iterate 36 (refine stillS_step (fun K hK => ?_); go_simp; refine hK _ ?_; clear hK K)
                            refine stillS_nil ?_
                            go_simp
                            refine AnyS.done (by kernel_rfl) ?_
                            go_wp2
                            go_meet
                            exact ⟨rfl, HP9.out⟩
                      · have hb4 : ¬ a.base.toList = b.base.toList := fun e => hbase (by exact (bytes_inj _ _).1 e)
                        have hb1 : (a.base.toList == b.base.toList) = false := by simpa using hb4
                        have hb2 : (a.base.toList != b.base.toList) = true := by simp [bne, hb1]
                        have hab : ¬ oa.1 = ob.1 := by have := HDIFF.out hbase; rw [HOA.out, HOB.out] at this; exact this
                        have hab1 : (oa.1 == ob.1) = false := by simpa using hab
                        have hab2 : (oa.1 != ob.1) = true := by simpa using hab
                        clear hbase hab
                        cases r with
                        | true =>
                          as_aux_lemma =>
                            refine AnyS.seg (fuel := 0) 9 36 (by kernel_rfl) (by kernel_rfl) (by kernel_rfl) ?_
                            simp only [List.drop_succ_cons, List.drop_zero, List.take_succ_cons, List.take_zero]
                            iterate 36 (refine stillS_step (fun K hK => ?_); go_simp; refine hK _ ?_; clear hK K)
                            refine stillS_nil ?_
                            go_simp
                            refine AnyS.done (by kernel_rfl) ?_
                            go_wp2
                            go_meet
                            exact ⟨rfl, HP9.out⟩
                        | false =>
                          as_aux_lemma =>
                            refine AnyS.seg (fuel := 0) 9 36 (by kernel_rfl) (by kernel_rfl) (by kernel_rfl) ?_
                            simp only [List.drop_succ_cons, List.drop_zero, List.take_succ_cons, List.take_zero]
                            iterate 36 (refine stillS_step (fun K hK => ?_); go_simp; refine hK _ ?_; clear hK K)
                            refine stillS_nil ?_
                            go_simp
                            refine AnyS.done (by kernel_rfl) ?_
                            go_wp2
                            go_meet
                            exact ⟨rfl, HP9.out⟩
                    case rest =>
                      obtain ⟨rfl, HPC⟩ := hcut
                      go_wp2
                      go_roundw
                      case rel => exact ⟨v + 1, by omega, by go_num, HPC.out⟩
                      case measure => simp [intOf] <;> omega
                  · obtain rfl : v = u := by omega
                    go_wp2
                    go_roundw
                    case rel => exact ⟨v + 1, by omega, by go_num, HPV.out⟩
                    case measure => simp [intOf] <;> omega
              · obtain rfl : u = pn := by omega
                go_wp2
                go_ret
                exact ⟨rfl, HPU.out.one.bel⟩
end Go.Proofs.Ytlobiebmaheflaa
