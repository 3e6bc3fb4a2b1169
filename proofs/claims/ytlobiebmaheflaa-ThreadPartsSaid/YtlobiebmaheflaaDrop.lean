/- Contract of Drop. -/
import Derived.Test.YtlobiebmaheflaaDropA
namespace Go.Proofs.Ytlobiebmaheflaa
open Go.RowKit
set_option linter.unusedVariables false

def DropPost (w : World) (tag : Nat → Tag) (hd : Nat) (L : List Msg) (c : Nat) (id : Int) (e : Ending) (w' : World) : Prop :=
  ∃ b : Bool, e = .returned (.bool b) ∧ (b = true ↔ ∃ m, m ∈ L ∧ m.id = id) ∧ ∃ tag', Th w' tag' hd (del id L) (c + 900) ∧ Off (Mut tag) w w' ∧ Grows w tag tag'
/-- The state of the second loop: the first j members are tied anew. -/
def Retie (w : World) (tag : Nat → Tag) (hd N T : Nat) (nm : Int → Option Nat) (live : Nat → Prop) (num : Nat → Int) (tm : Nat → List Tie) (c n gr : Nat) (row nb : Option Obj) (gl : List Nat) (j : Nat) (wr : World) : Prop :=
  ∃ tag' up' root' dep' grp' tl', Whole wr tag' hd N T nm (fun g => live g ∧ g ≠ n) num tm (fun g k => k ∈ tm g ∧ (g ∉ gl ∨ g ∈ gl.take j)) up' root' dep' grp' tl' (c + 9 * j) ∧ wr.heap[gr]? = row ∧ tag' gr = tOut ∧ wr.heap[n]? = nb ∧ tag' n = tOut ∧ Off (Mut tag) w wr ∧ Grows w tag tag'
theorem take_succ' {gl : List Nat} {j : Nat} (hj : j < gl.length) {x : Nat} (hx : gl[j] = x) : gl.take (j + 1) = gl.take j ++ [x] := by rw [List.take_succ_eq_append_getElem hj, hx]
theorem not_before {gl : List Nat} {j : Nat} (hj : j < gl.length) {x : Nat} (hx : gl[j] = x) (hnd : gl.Nodup) : x ∉ gl.take j := fun h => by
  obtain ⟨i, hi, e⟩ := List.getElem_of_mem h
  have hi' : i < j := by simp at hi; omega
  rw [List.getElem_take] at e
  exact (List.pairwise_iff_getElem.1 (List.nodup_iff_pairwise_ne.1 hnd)) i j (by omega) hj hi' (e.trans hx.symm)

set_option maxRecDepth 100000 in
set_option maxHeartbeats 4000000 in
theorem drop_any (id : Int) (w : World) {tag : Nat → Tag} {hd : Nat} {L : List Msg} {c : Nat} (h : Th w tag hd L c) (hL : L.length ≤ 100) (hid : -9223372036854775808 ≤ id ∧ id ≤ 9223372036854775807) (hc : c ≤ 1000000) :
    Calls Try.prog 25 #[.pointer (some ⟨hd, 0, none⟩), .int .i64 id] w (DropPost w tag hd L c id) := by
  obtain ⟨nd, N, T, nm, live, num, tm, up, root, dep, grp, tl, hp, hnd⟩ := h
  have hwf : (Lit.int .i64 id).wf = true := WalkArith.wf_i64 (by omega)
  have hm := hp.whole.mem
  have hh := hm.hdr
  have hhl := heap_lt hh
  have kh : w.cell? ⟨hd, 0, none⟩ = some (.map (some N)) := by simp [World.cell?, hh]
  have hlook := hm.nodes.look hwf
  have HP := Lib.hid hp
  have HND := Lib.hid hnd
  have HL := Lib.hid hL
  have HWF := Lib.hid hwf
  clear hp hnd hm hh hL hwf
  cases hnm : nm id with
  | none =>
    rw [hnm] at hlook
    unfold nodeOr at hlook
    have HNM := Lib.hid hnm
    clear hnm
    go_enter Try.func25, Try.ntmps25
    go_wp2
    go_ret
    have hno : ∀ m, m ∈ L → m.id ≠ id := fun m hm e => by
      rw [← HND.out] at hm
      obtain ⟨g, hg⟩ := mem_msgs.1 hm
      have := (HP.out.name id g).2 ⟨m, hg, e⟩
      rw [HNM.out] at this; cases this
    refine ⟨false, rfl, ⟨fun h => Bool.noConfusion h, fun ⟨m, h1, h2⟩ => absurd h2 (hno m h1)⟩, tag, ?_, Off.refl _ _, Grows.refl _ _⟩
    rw [del_none hno]
    exact Th.mono ⟨nd, N, T, nm, live, num, tm, up, root, dep, grp, tl, HP.out, HND.out⟩ (by omega)
  | some n =>
    rw [hnm] at hlook
    unfold nodeOr ptr at hlook
    obtain ⟨m, hmn, hmid⟩ := (HP.out.name id n).1 hnm
    have hnl : live n := (HP.out.bears.lv n).2 ⟨m, hmn⟩
    obtain ⟨w1, hdel, hN1, hg1⟩ := HP.out.whole.mem.nodes.strike HWF.out 0
    have hM1 := HP.out.whole.mem.turnNodes hg1 hN1 (Nat.le_refl _)
    have HMN := Lib.hid hmn
    have HMI := Lib.hid hmid
    have HNL := Lib.hid hnl
    have HM1 := Lib.hid hM1
    have HG1 := Lib.hid hg1
    clear hnm hmn hmid hnl hN1 hM1 hg1
    go_enter Try.func25, Try.ntmps25
    go_wp2_with fail
    refine (top_any n w1 HM1.out HP.out.whole.knit.fst HNL.out).mono ?_
    rintro e w2 ⟨rfl, up2, hM2, hF2, hi2, hO2⟩
    obtain ⟨r, hr⟩ : ∃ r, root n = r := ⟨_, rfl⟩
    rw [hr]
    have hrl : live r := hr ▸ HP.out.whole.knit.fst.rootL n HNL.out
    have hrr : up2 r = r := hr ▸ hF2.rootF n HNL.out
    obtain ⟨gr, ln, cap, c3, -, hln, hln0, hown, htg, hgr, -⟩ := grp_row hM2 hF2 hrl hrr ((hi2 r hrl).1 hrr)
    obtain ⟨gl, hgl⟩ : ∃ gl, grp r = gl := ⟨_, rfl⟩
    rw [hgl] at hln hown
    have hgm : ∀ y, y ∈ gl ↔ (live y ∧ root y = root n) := fun y => by rw [← hgl, hr]; exact hF2.grpM r hrl hrr y
    have hgn : gl.Nodup := hgl ▸ hF2.grpN r hrl hrr
    have hndl : nd.length ≤ 100 := by have := HL.out; rw [← HND.out] at this; simpa [msgs] using this
    have hfew : Few live 100 := ⟨nd.map (·.2), fun x hx => by obtain ⟨y, hy⟩ := (HP.out.bears.lv x).1 hx; exact List.mem_map.2 ⟨_, hy, rfl⟩, by simpa using hndl⟩
    have hlen : ln ≤ 100 := by rw [hln]; exact hfew.le hgn fun z hz => ((hgm z).1 hz).1
    obtain ⟨row, hrow⟩ : ∃ row, w2.heap[gr]? = row := ⟨_, rfl⟩
    have hcell : ∀ j (hj : j < gl.length) (wr : World), wr.heap[gr]? = row → wr.cell? ⟨gr, j, none⟩ = some (.pointer (some ⟨gl[j], 0, none⟩)) := fun j hj wr hwr => by
      rw [World.cell?_of_block (w := w2) (a := ⟨gr, j, none⟩) (hwr.trans hrow.symm)]
      have := hown.cells (g := gr) rfl j (ptr gl[j]) (by simp [hj])
      unfold ptr at this
      by_cases e : j = 0
      · subst e; simpa [Addr.add] using this
      · simpa [Addr.add, e] using this
    have hF0 : Falling w2 (upd tag gr tOut) hd N T (upd nm id none) live num tm up2 grp tl c gl [] (fun _ => False) gr row w2 (upd tag gr tOut) :=
      ⟨⟨up2, grp, tl, hM2.giveRow htg (fun g hg h => h.elim (fun h => (hi2 g hg).1 h.1) (fun h => by cases h)) (fun h => h.elim (fun h => h.2 ((hgm r).2 ⟨hrl, by rw [hr]; exact hF2.fix r hrl hrr⟩)) (fun h => by cases h)), fun g hg => (by cases hg), fun g _ _ => ⟨rfl, rfl⟩, fun k _ h => h.elim, fun k _ _ => rfl⟩, ⟨hrow, upd_same _ _ _⟩, Off.refl _ _, Grows.refl _ _⟩
    have hO02 : Off (Mut tag) w w2 := by
      have o1 : Off (Mut tag) w w1 := (Off.refl _ w).grown HG1.out (fun k e => .inl (by have h2 : N = k := Option.some.inj e; subst h2; exact ⟨by rw [HP.out.whole.mem.tagN]; simp [tNodes, tOut], by rw [HP.out.whole.mem.tagN]; simp [tNodes]⟩))
      exact o1.trans hO2
    have hhd2 : hd < w2.heap.size := heap_lt hM2.hdr
    have hfit : ∀ g k, live g → k ∈ tm g → TieFits k := fun g k hg hk => by
      obtain ⟨y, hy⟩ := (HP.out.bears.lv g).1 hg
      exact (HP.out.fine y g hy).2.2.2.2 k hk
    have h9 : ∀ g, live g → (tm g).length ≤ 9 ∧ (tm g).Nodup := fun g hg => by
      obtain ⟨y, hy⟩ := (HP.out.bears.lv g).1 hg
      exact ⟨(HP.out.fine y g hy).2.2.2.1, (HP.out.fine y g hy).2.2.1⟩
    have HF0 := Lib.hid hF0
    have HO02 := Lib.hid hO02
    have HGM := Lib.hid hgm
    have HGN := Lib.hid hgn
    have HLN := Lib.hid hln
    have HCELL := Lib.hid hcell
    have HFIT := Lib.hid hfit
    have H9 := Lib.hid h9
    have HK2 : Hid (Knit live (fun g k => k ∈ tm g) up2 root dep grp tl) := { HP.out.whole.knit with fst := hF2 }
    have HFEW := Lib.hid hfew
    have HGRL := Lib.hid hgr
    clear hM2 hF2 hi2 hO2 hr hrl hrr hln hown htg hgl hgm hgn hndl hfew hrow hcell hF0 hO02 hfit h9 hdel hlook kh hgr hhl
    go_wp2
    clear c3
    go_loopw [33] (fun i wr => ∃ j : Nat, j ≤ ln ∧ i = .int .i64 j ∧ Hid (∃ tagj, Falling wr tagj hd N T (upd nm id none) live num tm up2 grp tl c gl (gl.take j) (fun k => ∃ m, m ∈ gl.take j ∧ k ∈ tm m) gr row w2 (upd tag gr tOut))) (fun i _ => ln - (intOf i).toNat)
    case atStart => exact ⟨0, Nat.zero_le _, rfl, _, HF0.out.congrK fun k _ => ⟨fun h => h.elim, fun ⟨m, h, _⟩ => by simp at h⟩⟩
    case round =>
      clear HF0
      obtain ⟨j, hj, rfl, hF⟩ := hrel
      by_cases hlt : j < ln
      · have hjl : j < gl.length := by rw [← HLN.out]; exact hlt
        obtain ⟨tagj, hFj⟩ := hF.out
        obtain ⟨x, hx⟩ : ∃ x, gl[j] = x := ⟨_, rfl⟩
        have hxg : x ∈ gl := hx ▸ List.getElem_mem hjl
        have hxl : live x := ((HGM.out x).1 hxg).1
        have cj := HCELL.out j hjl wr hFj.row.1
        rw [hx] at cj
        obtain ⟨up', grp', tl', hMj, -⟩ := hFj.mem
        obtain ⟨tv, gv, hxb, -, -, -⟩ := hMj.node x hxl
        have hgrw : gr < wr.heap.size := Nat.lt_of_lt_of_le HGRL.out hFj.off.size
        have HFJ := Lib.hid hFj
        have HX := Lib.hid hx
        have HXG := Lib.hid hxg
        have HXL := Lib.hid hxl
        have HXB := Lib.hid hxb
        have hj2 : (j : Int) < ln := by omega
        clear hF hFj hx hxg hxl hMj hxb
        go_wp2_with fail
        refine (alone_any _ x _ _ _ _ wr HXB.out).mono ?_
        intro e w3 h3
        have he : e = .returned (.tuple #[]) := h3.1
        subst he
        have hF3 := HFJ.out.alone HXL.out HXG.out (not_before hjl HX.out HGN.out) HXB.out hgrw h3
        have hxb3 := h3.2.2.2.1
        have hs3 := h3.2.1
        obtain ⟨tag3, htag3⟩ : ∃ tag3, upd tagj wr.heap.size (tGrp x) = tag3 := ⟨_, rfl⟩
        rw [htag3] at hF3
        obtain ⟨up3, grp3, tl3, hM3, -⟩ := hF3.mem
        obtain ⟨tv3, gv3, hx3, -, htr, -⟩ := hM3.node x HXL.out
        obtain ⟨TA, tcap, htv, htc1, htc2, hta⟩ := htr.at_
        have etv : tv = tv3 := by
          rw [hxb3] at hx3
          have e1 := congrArg Array.toList (Obj.cells.inj (Option.some.inj hx3)).1
          simp only [nodeCells, List.cons.injEq, and_true] at e1
          exact e1.2.1
        rw [← etv] at htv
        have k1 : w3.cell? ⟨x, 1, none⟩ = some (.slice TA (tm x).length tcap) := by rw [← htv]; simp [World.cell?, hxb3]
        obtain ⟨tn, htn⟩ : ∃ tn, (tm x).length = tn := ⟨_, rfl⟩
        rw [htn] at k1 htc1
        have htn9 : tn ≤ 9 := by rw [← htn]; exact (H9.out x HXL.out).1
        have hgr3 : gr < w3.heap.size := by omega
        have HF3 := Lib.hid hF3
        have HTA := Lib.hid hta
        have HTN := Lib.hid htn
        have htc3 : tcap ≤ 9223372036854775807 := by simpa only [maxLen] using htc2
        clear h3 hF3 hxb3 hs3 htag3 hM3 hx3 htr hta etv htn htv htc2 cj HFJ
        go_wp2
        go_loopw [45] (fun i wq => ∃ q : Nat, q ≤ tn ∧ i = .int .i64 q ∧ Hid (Falling wq tag3 hd N T (upd nm id none) live num tm up2 grp tl c gl (gl.take j ++ [x]) (fun k => (∃ m, m ∈ gl.take j ∧ k ∈ tm m) ∨ k ∈ (tm x).take q) gr row w2 (upd tag gr tOut)) ∧ Hid (w3.heap.size ≤ wq.heap.size ∧ ∀ b, tag3 b = tOwn x → b < w3.heap.size → wq.heap[b]? = w3.heap[b]?)) (fun i _ => tn - (intOf i).toNat)
        case atStart => exact ⟨0, Nat.zero_le _, rfl, HF3.out.congrK fun k _ => ⟨.inl, fun h => h.elim (fun h => h) (fun h => by simp at h)⟩, Nat.le_refl _, fun _ _ _ => rfl⟩
        case round =>
          clear HF3 k1
          obtain ⟨q, hq, rfl, hFq, hkeep⟩ := hrel
          by_cases hqt : q < tn
          · have hql : q < (tm x).length := by rw [HTN.out]; exact hqt
            obtain ⟨g, rfl, htg, hgl3, d0, d1⟩ := HTA.out q hql
            obtain ⟨k, hk⟩ : ∃ k, (tm x)[q] = k := ⟨_, rfl⟩
            have hkm : k ∈ tm x := hk ▸ List.getElem_mem hql
            rw [hk] at d0 d1
            have hgb := hkeep.out.2 g htg hgl3
            have k0 := (World.cell?_of_block (a := ⟨g, q * 2, none⟩) hgb).trans d0
            have k1 := (World.cell?_of_block (a := ⟨g, q * 2 + 1, none⟩) hgb).trans d1
            have hgq : g < wr.heap.size := Nat.lt_of_lt_of_le hgl3 hkeep.out.1
            have hgrq : gr < wr.heap.size := Nat.lt_of_lt_of_le hgr3 hkeep.out.1
            obtain ⟨upq, grpq, tlq, hMq, -⟩ := hFq.out.mem
            have hhq := hMq.hdr
            have kh : wr.cell? ⟨hd, 1, none⟩ = some (.map (some T)) := by simp [World.cell?, hhq]
            have hhdl := heap_lt hhq
            obtain ⟨tvq, htq, -⟩ := hMq.ties
            obtain ⟨X, hX⟩ : ∃ X, X = (wr.alloc (.cells #[.string k.1, .string k.2] 72)).drew := ⟨_, rfl⟩
            have hoX : Off (fun _ => False) wr X := by rw [hX]; exact ((Off.refl _ _).alloc _).drew
            have htX : TiesMap X T tvq c := htq.keep (hoX.block T htq.lt (fun h => h))
            obtain ⟨w4, hdel, hT4, hg4⟩ := htX.strike (HFIT.out x k HXL.out hkm) 0
            have hdel' := hdel
            rw [hX] at hdel'
            unfold tieVal at hdel'
            have HX4 : Hid (∀ tv, TiesMap X T tv c → X.grownBy w4 (some T) ∧ TiesMap w4 T (upd tv k (.slice none 0 0)) c) := fun tv ht => by
              obtain ⟨w5, h1, h2, h3⟩ := ht.strike (HFIT.out x k HXL.out hkm) 0
              have := (Result.ok.inj (hdel.symm.trans h1)).2
              subst this
              exact ⟨h3, h2⟩
            have HKM := Lib.hid hkm
            have HK := Lib.hid hk
            have HOX := Lib.hid hoX
            have HXX := Lib.hid hX
            have HG4 := Lib.hid hg4
            have HTT : Hid (tag3 T = tTies) := hMq.tagT
            have HTL : Hid (T < wr.heap.size) := htq.lt
            have HFQ := hFq
            have HKEEP := hkeep
            clear hFq hkeep hMq hhq htq hoX htX hX hdel hT4 hg4 hk hkm hgb d0 d1 htg
            have hq2 : (q : Int) < tn := by omega
            go_wp2
            go_region_law (fail)
            all_goals
              go_wp2
              go_roundw
              case rel =>
                refine ⟨q + 1, by omega, by go_num, ?_, ?_⟩
                · have hskip := HFQ.out.skip HOX.out (fun b h => h.elim) hgrq (fun b _ h => h)
                  have hst := hskip.strike (HFIT.out x k HXL.out HKM.out) (by have := HOX.out.size; omega) HX4.out
                  refine hst.congrK fun k' _ => ?_
                  rw [List.take_succ_eq_append_getElem hql, HK.out, List.mem_append, List.mem_singleton]
                  exact or_assoc
                · refine ⟨Nat.le_trans HKEEP.out.1 (Nat.le_trans HOX.out.size HG4.out.size), fun b hb hl => ?_⟩
                  have hl2 : b < wr.heap.size := Nat.lt_of_lt_of_le hl HKEEP.out.1
                  rw [HG4.out.block b (Nat.lt_of_lt_of_le hl2 HOX.out.size) (fun e => by have h1 : b = T := Option.some.inj e; rw [h1, HTT.out] at hb; simp [tTies, tOwn] at hb), HOX.out.block b hl2 (fun h => h)]
                  exact HKEEP.out.2 b hb hl
              case measure => simp [intOf] <;> omega
          · obtain rfl : q = tn := by omega
            have HFQ := hFq
            clear hFq hkeep
            go_wp2
            go_roundw
            case rel =>
              refine ⟨j + 1, by omega, by go_num, tag3, ?_⟩
              rw [take_succ' hjl HX.out]
              refine HFQ.out.congrK fun k _ => ?_
              rw [← HTN.out, List.take_length]
              constructor
              · rintro (⟨m, h1, h2⟩ | h)
                · exact ⟨m, List.mem_append_left _ h1, h2⟩
                · exact ⟨x, by simp, h⟩
              · rintro ⟨m, h1, h2⟩
                rcases List.mem_append.1 h1 with h1 | h1
                · exact .inl ⟨m, h1, h2⟩
                · rw [List.mem_singleton.1 h1] at h2; exact .inr h2
            case measure => simp [intOf] <;> omega
      · obtain rfl : j = ln := by omega
        obtain ⟨tagj, hFj⟩ := hF.out
        have hfull : gl.take j = gl := List.take_of_length_le (by rw [← HLN.out]; exact Nat.le_refl _)
        rw [hfull] at hFj
        obtain ⟨up', root', grp', tl', hW⟩ := fallen HK2.out HNL.out HGM.out hFj HFIT.out
        obtain ⟨upq, grpq, tlq, hMq, -⟩ := hFj.mem
        obtain ⟨tvn, gvn, hnb, -⟩ := hMq.node n HNL.out
        obtain ⟨cn, hcn⟩ : ∃ cn, nodeCells (num n) tvn (upq n) gvn = cn := ⟨_, rfl⟩
        rw [hcn] at hnb
        have hgr0 : Grows w tag (upd tag gr tOut) := grows_out
        have hR0 : Retie w tag hd N T (upd nm id none) live num tm c n gr row (some (.cells cn 64 (0, 0))) gl 0 wr := by
          refine ⟨_, up', root', dep, grp', tl', ⟨hW.mem, hW.knit.congr (fun _ => Iff.rfl) fun g k _ => ?_⟩, hFj.row.1, ?_, hnb, upd_same _ _ _, HO02.out.grows hFj.off hgr0, (hgr0.trans hFj.grows HO02.out.size).trans (grows_out (w := wr)) (Nat.le_trans HO02.out.size hFj.off.size)⟩
          · simp
          · by_cases e : gr = n
            · rw [e]; exact upd_same _ _ _
            · rw [upd_other _ _ e]; exact hFj.row.2
        have HR0 := Lib.hid hR0
        clear hF hFj hfull hW hMq hnb hcn hgr0 hR0
        go_wp2
        go_loopw [58] (fun i wr => ∃ q : Nat, q ≤ j ∧ i = .int .i64 q ∧ Hid (Retie w tag hd N T (upd nm id none) live num tm c n gr row (some (.cells cn 64 (0, 0))) gl q wr)) (fun i _ => j - (intOf i).toNat)
        case atStart => exact ⟨0, Nat.zero_le _, rfl, HR0⟩
        case round =>
          clear HR0
          obtain ⟨q, hq, rfl, hR⟩ := hrel
          by_cases hqt : q < j
          · have hql : q < gl.length := by rw [← HLN.out]; exact hqt
            obtain ⟨x, hx⟩ : ∃ x, gl[q] = x := ⟨_, rfl⟩
            have hxg : x ∈ gl := hx ▸ List.getElem_mem hql
            have hxl : live x := ((HGM.out x).1 hxg).1
            obtain ⟨tagq, upq, rootq, depq, grpq, tlq, hWq, hrow, hgrt, hnb, hnt, hOq, hGq⟩ := hR.out
            have cq := HCELL.out q hql wr hrow
            rw [hx] at cq
            have hgrl : gr < wr.heap.size := World.block_lt_of_cell? wr ⟨gr, q, none⟩ cq
            have hnl2 := heap_lt hnb
            have hq2 : (q : Int) < j := by omega
            have HW := Lib.hid hWq
            have HROW := Lib.hid hrow
            have HGRT := Lib.hid hgrt
            have HNB := Lib.hid hnb
            have HNT := Lib.hid hnt
            have HOQ := Lib.hid hOq
            have HGQ := Lib.hid hGq
            have HX := Lib.hid hx
            have HXG := Lib.hid hxg
            have HXL := Lib.hid hxl
            clear hR hWq hrow hgrt hnb hnt hOq hGq hx hxg hxl
            by_cases hxn : x = n
            · subst hxn
              have hne := (ptr_same wr x).1
              go_wp2
              go_roundw
              case rel =>
                refine ⟨q + 1, by omega, by go_num, tagq, upq, rootq, depq, grpq, tlq, ⟨HW.out.mem.mono (by omega), HW.out.knit.congr (fun _ => Iff.rfl) fun g k hg => ?_⟩, HROW.out, HGRT.out, HNB.out, HNT.out, HOQ.out, HGQ.out⟩
                rw [take_succ' hql HX.out, List.mem_append, List.mem_singleton]
                constructor
                · rintro ⟨h1, h2 | h2⟩
                  · exact ⟨h1, .inl h2⟩
                  · exact ⟨h1, .inr (.inl h2)⟩
                · rintro ⟨h1, h2 | h2 | h2⟩
                  · exact ⟨h1, .inl h2⟩
                  · exact ⟨h1, .inr h2⟩
                  · exact absurd h2 hg.2
              case measure => simp [intOf] <;> omega
            · obtain ⟨tvx, gvx, hxb, -⟩ := HW.out.mem.node x ⟨HXL.out, hxn⟩
              have hne := (ptr_neq hxn hxb HNB.out).1
              have HXN := Lib.hid hxn
              clear hxn hxb
              have hnot := not_before hql HX.out HGN.out
              have HNOT := Lib.hid hnot
              clear hnot
              go_wp2_with fail
              refine (tied_any x wr HW.out ⟨HXL.out, HXN.out⟩ (fun k hk => HFIT.out x k HXL.out hk) (fun k _ h => h.2.elim (fun h => h HXG.out) HNOT.out) (H9.out x HXL.out).2 ?_ (by have := (H9.out x HXL.out).1; omega)).mono ?_
              · obtain ⟨ll, h1, h2⟩ := HFEW.out
                exact ⟨ll, fun g hg => h1 g hg.1, by omega⟩
              · rintro e w5 ⟨rfl, tag5, up5, root5, dep5, grp5, tl5, hW5, hO5, hG5⟩
                have HW5 := Lib.hid hW5
                have HO5 := Lib.hid hO5
                have HG5 := Lib.hid hG5
                clear hW5 hO5 hG5
                go_wp2
                go_roundw
                case rel =>
                  refine ⟨q + 1, by omega, by go_num, tag5, up5, root5, dep5, grp5, tl5, ⟨HW5.out.mem.mono (by have := (H9.out x HXL.out).1; omega), HW5.out.knit.congr (fun _ => Iff.rfl) fun g k hg => ?_⟩, ?_, (HG5.out gr hgrl).1 HGRT.out, ?_, (HG5.out n hnl2).1 HNT.out, HOQ.out.grows HO5.out HGQ.out, HGQ.out.trans HG5.out HOQ.out.size⟩
                  · rw [take_succ' hql HX.out, List.mem_append, List.mem_singleton]
                    unfold effAll
                    constructor
                    · rintro (⟨h1, h2 | h2⟩ | ⟨h1, h2⟩)
                      · exact ⟨h1, .inl h2⟩
                      · exact ⟨h1, .inr (.inl h2)⟩
                      · exact ⟨h1 ▸ h2, .inr (.inr h1)⟩
                    · rintro ⟨h1, h2 | h2 | h2⟩
                      · exact .inl ⟨h1, .inl h2⟩
                      · exact .inl ⟨h1, .inr h2⟩
                      · exact .inr ⟨h2, h2 ▸ h1⟩
                  · exact (HO5.out.block gr hgrl (fun h => h.1 HGRT.out)).trans HROW.out
                  · exact (HO5.out.block n hnl2 (fun h => h.1 HNT.out)).trans HNB.out
                case measure => simp [intOf] <;> omega
          · obtain rfl : q = j := by omega
            go_wp2
            go_ret
            obtain ⟨tagq, upq, rootq, depq, grpq, tlq, hWq, -, -, -, -, hOq, hGq⟩ := hR.out
            have hfull : gl.take q = gl := List.take_of_length_le (by rw [← HLN.out]; exact Nat.le_refl _)
            rw [hfull] at hWq
            refine ⟨true, rfl, ⟨fun _ => ⟨m, by rw [← HND.out]; exact mem_msgs.2 ⟨n, HMN.out⟩, HMI.out⟩, fun _ => rfl⟩, tagq, ?_, hOq, hGq⟩
            have hd : Th wr tagq hd (del m.id (msgs nd)) (c + 9 * q) := drop_th (eff := fun g k => k ∈ tm g ∧ (g ∉ gl ∨ g ∈ gl)) HP.out HMN.out (by rw [HMI.out]; exact hWq) fun g k hg hgn => ⟨fun h => h.1, fun h => ⟨h, (Classical.em (g ∈ gl)).elim .inr .inl⟩⟩
            rw [HND.out, HMI.out] at hd
            exact hd.mono (by omega)
end Go.Proofs.Ytlobiebmaheflaa
