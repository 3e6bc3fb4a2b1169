/- ThreadTells: the walk. The law's arguments read as a list of operations and a number. -/
import Derived.Test.YtlobiebmaheflaaSmall
import Derived.StillTailTactics
namespace Go.Proofs.Ytlobiebmaheflaa
open Go.RowKit
set_option linter.unusedVariables false

/-- A set of threads and the reference's set, both behind w0. -/
structure Both (w0 w : World) (tag : Nat → Tag) (hd xh : Nat) (L R : List Msg) (c : Nat) : Prop where
  one : One w0 w tag hd L c
  ref : RefW w (fun b => tag b = tOut) xh R
  far : w0.heap.size ≤ xh
section
variable {w0 w w' : World} {tag tag2 : Nat → Tag} {hd xh : Nat} {L L2 R R2 : List Msg} {c c2 : Nat}
theorem Both.turn (h : Both w0 w tag hd xh L R c) (hT : Th w' tag2 hd L2 c2) (hO : Off (Mut tag) w w') (hG : Grows w tag tag2) : Both w0 w' tag2 hd xh L2 R c2 :=
  ⟨h.one.turn hT hO hG, h.ref.keep (fun b hb hl => ⟨hO.block b hl fun h => h.1 hb, (hG b hl).1 hb⟩) hO.size hT.fresh, h.far⟩
theorem Both.stay (h : Both w0 w tag hd xh L R c) (hT : Th w' tag hd L2 c2) (hO : Off (Mut tag) w w') : Both w0 w' tag hd xh L2 R c2 := h.turn hT hO (Grows.refl _ _)
theorem Both.below (h : Both w0 w tag hd xh L R c) (hb : Below w.heap.size w w') : Both w0 w' tag hd xh L R c := ⟨h.one.below hb, h.ref.below hb, h.far⟩
theorem Both.refTurn (h : Both w0 w tag hd xh L R c) (hR : RefW w' (fun b => tag b = tOut) xh R2) (hO : Off (fun b => b = xh) w w') : Both w0 w' tag hd xh L R2 c :=
  ⟨⟨h.one.th.off hO fun b e => by subst e; exact h.ref.hdr, h.one.old, h.one.bel.trans (hO.below h.one.bel.size fun k e => by subst e; exact h.far)⟩, hR, h.far⟩
end

def TellsPost (w : World) (e : Ending) (w' : World) : Prop := e = .returned (.bool true) ∧ Below w.heap.size w w'
theorem addL_le (L : List Msg) (m : Msg) : (addL L m).length ≤ L.length + 1 := by
  unfold addL
  by_cases h : addErr L m.id = 0
  · rw [if_pos h, ins_len]; exact Nat.le_refl _
  · rw [if_neg h]; omega
theorem stepL_le (L : List Msg) (a : Deed) : (stepL L a).length ≤ L.length + 1 := by
  unfold stepL
  by_cases h : a.do_ = 1
  · rw [if_pos h]
    unfold del
    have := List.length_filter_le (fun x : Msg => x.id != a.id) L
    omega
  · rw [if_neg h]; exact addL_le _ _

/-- A slice of one list. -/
theorem lists_one {w : World} {ad : Nat} {X : Option Addr} {x c : Nat} {l : List Int} (hc : w.heap[ad]? = some (.cells #[.slice X x c] 40 (0, 0))) (hI : Ints w w.heap.size X x l) (hx : x ≤ 1000000) : Lists w (some ⟨ad, 0, none⟩) 1 [l] := by
  refine ⟨rfl, fun k hk => ?_⟩
  have : k = 0 := by simpa using hk
  subst this
  exact ⟨_, X, x, c, rfl, heap_lt hc, by simp [World.cell?, Addr.add, hc], hx, hI⟩

theorem groupOf_le (L : List Msg) (i : Int) : (groupOf L i).length ≤ L.length := by
  unfold groupOf
  rw [List.length_map]; exact List.length_filter_le _ _
theorem allOf_le (L : List Msg) : (allOf L).length ≤ L.length := by
  unfold allOf
  rw [List.length_map]; exact List.length_filter_le _ _
theorem allOf_each {L : List Msg} {g : List Int} (h : g ∈ allOf L) : g.length ≤ L.length := by
  unfold allOf at h
  obtain ⟨m, -, rfl⟩ := List.mem_map.1 h
  exact groupOf_le _ _
/-- The state at the loop's head. -/
def TellsRel (w : World) (hd xh j : Nat) (wr : World) : Prop := ∃ L tag, Both w wr tag hd xh L L (900 * j) ∧ L.length ≤ j
set_option maxRecDepth 100000 in
set_option maxHeartbeats 4000000 in
theorem tells_any (A : Option Addr) (n c : Nat) (l : List Deed) (id : Int) (w : World) (h : Deeds w w.heap.size A n l) (hn : n ≤ c) (hc : c ≤ maxLen) (hid : I64 id) :
    Calls Try.prog 3 #[.slice A n c, .int .i64 id] w (TellsPost w) := by
  have H := Lib.hid h
  have HN := Lib.hid h.1
  have HID := Lib.hid hid
  clear h hid
  go_enter Try.func3, Try.ntmps3
  go_wp2_with fail
  refine (small_any w).mono ?_
  rintro e w1 ⟨rfl, hb1⟩
  have HB1 := Lib.hid hb1
  clear hb1
  go_wp2_with fail
  refine (new_any w1).mono ?_
  intro e w2 h2
  have h2' := One.new HB1.out h2
  obtain ⟨rfl, -, -⟩ := h2
  obtain ⟨hd, hhd⟩ : ∃ x, w1.heap.size + 2 = x := ⟨_, rfl⟩
  rw [hhd] at h2' ⊢
  have H2 := Lib.hid h2'
  clear h2' hhd
  go_wp2_with fail
  refine (rnew_any w2 (G := fun b => newTag w1.heap.size b = tOut) H2.out.th.fresh).mono ?_
  rintro e w3 ⟨rfl, hr3, hb3⟩
  have h3 : Both w w3 (newTag w1.heap.size) hd w2.heap.size [] [] 0 := ⟨H2.out.below hb3, hr3, H2.out.bel.size⟩
  obtain ⟨xh, hxh⟩ : ∃ x, w2.heap.size = x := ⟨_, rfl⟩
  rw [hxh] at h3 ⊢
  have H3 := Lib.hid h3
  have HBEL := Lib.hid h3.one.bel
  clear h3 hr3 hb3 hxh
  go_wp2_with fail
  refine (few_any A n c l w3 (by have := H.out.below HBEL.out; exact ⟨this.1, fun k hk => by obtain ⟨ad, RA, rn, rc, e, h1, h2, h3, h4, h5, h6, h7, h8⟩ := this.2 k hk; exact ⟨ad, RA, rn, rc, e, Nat.lt_of_lt_of_le h1 HBEL.out.size, h2, h3, h4, h5, h6, h7, h8.more HBEL.out.size⟩⟩) hn hc).mono ?_
  rintro e w4 ⟨b, rfl, hfew, rfl⟩
  cases b with
  | false =>
    clear hfew
    go_wp2
    go_ret
    exact ⟨rfl, HBEL.out⟩
  | true =>
    have HFEW := Lib.hid (hfew rfl)
    clear hfew
    have hn40 : n ≤ 40 := by have := HFEW.out.1; rw [← HN.out] at this; exact this
    go_wp2
    go_loopw [8] (fun i wr => ∃ j : Nat, j ≤ n ∧ i = .int .i64 (j : Int) ∧ Hid (TellsRel w hd xh j wr)) (fun i _ => n - (intOf i).toNat)
    case atStart => exact ⟨0, Nat.zero_le _, rfl, [], _, H3.out, Nat.le_refl _⟩
    case round =>
      obtain ⟨j, hj, rfl, hR⟩ := hrel
      obtain ⟨L, tag, hB, hLj⟩ := hR.out
      have HB := Lib.hid hB
      clear hR hB
      by_cases hjn : j < n
      · have hj2 : (j : Int) < n := by omega
        have hjl : j < l.length := by rw [← HN.out]; exact hjn
        have h8 := HFEW.out.2 _ (List.getElem_mem hjl)
        obtain ⟨ad, RA, rn, rc, rfl, hbl, hfit, d0, d1, d2, d3, d4, hr⟩ := (H.out.below HB.out.one.bel).2 j hjl
        obtain ⟨a, ha⟩ : ∃ a, l[j] = a := ⟨_, rfl⟩
        rw [ha] at hfit d0 d1 d2 d4 hr h8
        have HR0 := Lib.hid hr
        have HR := Lib.hid (hr.more HB.out.one.bel.size)
        have HFIT := Lib.hid hfit
        have HBL := Lib.hid hbl
        have HC0 := Lib.hid (And.intro d0 (And.intro d1 (And.intro d2 (And.intro d3 d4))))
        clear hr hfit hbl ha
        go_wp2_with fail
        refine (do_any a RA rn rc wr HB.out.one.th HFIT.out HR.out h8 (by omega) (by omega)).mono ?_
        rintro e w5 ⟨rfl, tag5, hth, hO, hG⟩
        have HB5 := Lib.hid (HB.out.turn hth hO hG)
        have hold : ∀ p : Addr, p.block < w.heap.size → w5.cell? p = wr.cell? p := fun p hp => (HB5.out.one.bel.cell hp).trans (HB.out.one.bel.cell hp).symm
        have d0 := (hold _ HBL.out).trans HC0.out.1
        have d1 := (hold ⟨(ad.add (j * 5)).block, (ad.add (j * 5)).off + 1, none⟩ HBL.out).trans HC0.out.2.1
        have d2 := (hold ⟨(ad.add (j * 5)).block, (ad.add (j * 5)).off + 2, none⟩ HBL.out).trans HC0.out.2.2.1
        have d3 := (hold ⟨(ad.add (j * 5)).block, (ad.add (j * 5)).off + 3, none⟩ HBL.out).trans HC0.out.2.2.2.1
        have d4 := (hold ⟨(ad.add (j * 5)).block, (ad.add (j * 5)).off + 4, none⟩ HBL.out).trans HC0.out.2.2.2.2
        have HR5 := Lib.hid ((HR0.out.below ⟨hO.os, hO.tape, hO.output, hO.size, fun k hk => hO.block k (Nat.lt_of_lt_of_le hk HB.out.one.bel.size) fun h => h.1 (HB.out.one.old k hk)⟩).more HB5.out.one.bel.size)
        clear hth hO hG hold
        go_upto_if 52 with (fail)
        go_cut [11, 12] (fun f is wc => f = .int .i64 (stepErr L a) ∧ is = .bool (stepOk L a) ∧ Hid (Both w wc tag5 hd xh (stepL L a) (stepL L a) (900 * (j + 1))))
        case first =>
          by_cases h1 : a.do_ = 1
          · have hd1 : (a.do_ == 1) = true := by simpa using h1
            have HD := Lib.hid h1
            clear h1
            go_wp2_with fail
            refine (rdrop_any a.id w5 HB5.out.ref (by omega)).mono ?_
            rintro e w6 ⟨b, rfl, hb, hr6, hO6⟩
            have HB6 := Lib.hid (HB5.out.refTurn hr6 hO6)
            have HBB := Lib.hid hb
            clear hb hr6 hO6
            go_wp2
            go_meet
            case rel =>
              refine ⟨by unfold stepErr; rw [if_pos HD.out], ?_, ?_⟩
              · unfold stepOk
                rw [if_pos HD.out]
                congr 1
                cases b
                · exact (decide_eq_false fun h => Bool.noConfusion (HBB.out.2 h)).symm
                · exact (decide_eq_true (HBB.out.1 rfl)).symm
              · show Both _ _ _ _ _ _ _ _
                have h7 := HB6.out
                have h8 : stepL L a = del a.id L := by unfold stepL; rw [if_pos HD.out]
                rw [h8] at h7 ⊢
                rw [show 900 * (j + 1) = 900 * j + 900 by omega]; exact h7
          · have hd1 : (a.do_ == 1) = false := by simpa using h1
            have HD := Lib.hid h1
            clear h1
            go_wp2
            refine wp_region_still_tail 21 (by kernel_rfl) (by kernel_rfl) ?_
            simp only [List.take_succ_cons, List.take_zero, List.drop_succ_cons, List.drop_zero]
            repeat still_step
            refine wpStill_nil ?_
            go_wp2_with fail
            refine (radd_any a.id a.own a.base a.refs RA rn rc w5.drew (HB5.out.ref.below ⟨rfl, rfl, rfl, Nat.le_refl _, fun _ _ => rfl⟩) HFIT.out.2.1 HR5.out.1 (by rw [HR5.out.1.1]; exact h8) HR5.out.2.1 HR5.out.2.2.2 HR5.out.2.2.1 HFIT.out.2.2.1 HFIT.out.2.2.2 (by omega)).mono ?_
            rintro e w6 ⟨rfl, hr6, hO6⟩
            have HB6 := Lib.hid (HB5.out.refTurn hr6 ⟨hO6.os, hO6.tape, hO6.output, hO6.size, hO6.block⟩)
            clear hr6 hO6
            go_wp2
            go_meet
            case rel =>
              refine ⟨by unfold stepErr; rw [if_neg HD.out], by unfold stepOk; rw [if_neg HD.out], ?_⟩
              show Both _ _ _ _ _ _ _ _
              have h7 := HB6.out
              have h8 : stepL L a = addL L ⟨a.id, idsOf a.own a.refs, a.base⟩ := by unfold stepL; rw [if_neg HD.out]
              rw [h8] at h7 ⊢
              rw [show 900 * (j + 1) = 900 * j + 900 by omega]; exact h7
        case rest =>
          obtain ⟨rfl, rfl, HB6⟩ := hcut
          clear HB5 HR5 d0 d1 d2 d3 d4 HC0
          obtain ⟨er, her⟩ : ∃ x, stepErr L a = x := ⟨_, rfl⟩
          obtain ⟨ok, hok⟩ : ∃ x, stepOk L a = x := ⟨_, rfl⟩
          obtain ⟨M, hM⟩ : ∃ x, stepL L a = x := ⟨_, rfl⟩
          rw [her, hok]
          rw [hM] at HB6
          have hMl : M.length ≤ j + 1 := by rw [← hM]; have := stepL_le L a; omega
          clear her hok hM HB
          go_wp2_with fail
          refine (of_any id wc HB6.out.one.th (by omega) HID.out).mono ?_
          rintro e w7 ⟨rfl, hth, hO⟩
          have HB7 := Lib.hid (HB6.out.stay hth hO)
          obtain ⟨o1, ho1⟩ : ∃ x, (ofL M id).1 = x := ⟨_, rfl⟩
          obtain ⟨o2, ho2⟩ : ∃ x, (ofL M id).2 = x := ⟨_, rfl⟩
          rw [ho1, ho2]
          have HO1 := Lib.hid ho1
          have HO2 := Lib.hid ho2
          clear hth hO ho1 ho2
          go_wp2_with fail
          refine (rof_any id w7 HB7.out.ref (by omega)).mono ?_
          rintro e w8 ⟨rfl, hb⟩
          have HB8 := Lib.hid (HB7.out.below hb)
          rw [HO1.out, HO2.out]
          clear hb
          go_wp2_with fail
          refine (group_any id w8 HB8.out.one.th (by omega) HID.out).mono ?_
          rintro e w9 ⟨v, rfl, hv, hth, hO⟩
          obtain ⟨GA, gc, rfl, -, -, gI⟩ := hv.ints
          have hgl := groupOf_le M id
          obtain ⟨g, hg⟩ : ∃ x, groupOf M id = x := ⟨_, rfl⟩
          have HG := Lib.hid hg
          rw [hg] at gI hgl ⊢
          obtain ⟨gn, hgn⟩ : ∃ x, g.length = x := ⟨_, rfl⟩
          rw [hgn] at gI hgl ⊢
          have HB9 := Lib.hid (HB8.out.stay hth hO)
          have HGI := Lib.hid gI
          have h10 : Below w9.heap.size w9 (w9.alloc (.cells #[.slice GA gn gc] 40)) := (Below.refl _ _).alloc (Nat.le_refl _) _
          have HB10 := Lib.hid (HB9.out.below h10)
          have hl1 : Lists (w9.alloc (.cells #[.slice GA gn gc] 40)) (some ⟨w9.heap.size, 0, none⟩) 1 [g] := lists_one (MapKept.heap_alloc w9 _).1 ((gI.below h10).more h10.size) (by omega)
          have HL1 := Lib.hid hl1
          clear hv hth hO hg gI hgn h10 hl1
          go_wp2_with fail
          refine (rgroup_any id _ HB10.out.ref (by omega)).mono ?_
          rintro e w11 ⟨v, rfl, hv, hb⟩
          obtain ⟨XA, xc, rfl, -, -, xI⟩ := hv.ints
          have hgl := groupOf_le M id
          rw [HG.out] at xI hgl ⊢
          obtain ⟨xn, hxn⟩ : ∃ x, g.length = x := ⟨_, rfl⟩
          rw [hxn] at xI hgl ⊢
          have h12 : Below w11.heap.size w11 (w11.alloc (.cells #[.slice XA xn xc] 40)) := (Below.refl _ _).alloc (Nat.le_refl _) _
          have HB12 := Lib.hid ((HB10.out.below hb).below h12)
          have HL2 := Lib.hid (lists_one (MapKept.heap_alloc w11 (.cells #[.slice XA xn xc] 40)).1 ((xI.below h12).more h12.size) (by omega))
          have HL3 := Lib.hid ((HL1.out.below hb).below h12)
          clear hv hb xI hxn h12
          go_wp2_with fail
          refine (same_any _ _ 1 1 1 1 [g] [g] _ HL3.out HL2.out (by omega)).mono ?_
          rintro e w13 ⟨rfl, nd, hw13⟩
          rw [decide_eq_true rfl]
          have h13 : Below (w11.alloc (.cells #[.slice XA xn xc] 40)).heap.size (w11.alloc (.cells #[.slice XA xn xc] 40)) w13 := by subst hw13; exact ⟨rfl, rfl, rfl, Nat.le_refl _, fun _ _ => rfl⟩
          have HB13 := Lib.hid (HB12.out.below h13)
          clear hw13 h13 HL1 HL2 HL3 HGI
          go_wp2_with fail
          refine (all_any w13 HB13.out.one.th (by omega)).mono ?_
          rintro e w14 ⟨v, rfl, hv, hb⟩
          have hal := allOf_le M
          have hae : ∀ l, l ∈ allOf M → l.length ≤ 1000000 := fun l hl => by have := allOf_each hl; omega
          obtain ⟨VA, vc, rfl, -, -, vI⟩ := hv.lists hae
          have HB14 := Lib.hid (HB13.out.below hb)
          have HL1 := Lib.hid vI
          obtain ⟨vn, hvn⟩ : ∃ x, (allOf M).length = x := ⟨_, rfl⟩
          rw [hvn] at HL1 hal ⊢
          have HVN := Lib.hid hvn
          clear hv hb hae vI hvn
          go_wp2_with fail
          refine (rall_any w14 HB14.out.ref (by omega)).mono ?_
          rintro e w15 ⟨v, rfl, hv, hb⟩
          have hae : ∀ l, l ∈ allOf M → l.length ≤ 1000000 := fun l hl => by have := allOf_each hl; omega
          obtain ⟨UA, uc, rfl, -, -, uI⟩ := hv.lists hae
          have HB15 := Lib.hid (HB14.out.below hb)
          have HL2 := Lib.hid uI
          have HL3 := Lib.hid (HL1.out.below hb)
          rw [HVN.out] at HL2 ⊢
          clear hv hb hae uI
          go_wp2_with fail
          refine (same_any _ _ vn vn _ _ (allOf M) (allOf M) _ HL3.out HL2.out (by omega)).mono ?_
          rintro e w16 ⟨rfl, nd2, hw16⟩
          rw [decide_eq_true rfl]
          have h16 : Below w15.heap.size w15 w16 := by subst hw16; exact ⟨rfl, rfl, rfl, Nat.le_refl _, fun _ _ => rfl⟩
          have HB16 := Lib.hid (HB15.out.below h16)
          clear hw16 h16 HL1 HL2 HL3
          go_wp2
          go_roundw
          case rel => exact ⟨j + 1, by omega, by go_num, M, _, HB16.out, hMl⟩
          case measure => simp [intOf] <;> omega
      · obtain rfl : j = n := by omega
        go_wp2
        go_ret
        exact ⟨rfl, HB.out.one.bel⟩
end Go.Proofs.Ytlobiebmaheflaa
