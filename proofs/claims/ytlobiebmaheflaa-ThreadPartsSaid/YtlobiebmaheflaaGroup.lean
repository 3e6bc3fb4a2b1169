/- Contracts of Group and Of. -/
import Derived.Test.YtlobiebmaheflaaNums
namespace Go.Proofs.Ytlobiebmaheflaa
open Go.RowKit
set_option linter.unusedVariables false

def GroupPost (w : World) (tag : Nat → Tag) (hd : Nat) (L : List Msg) (c : Nat) (id : Int) (e : Ending) (w' : World) : Prop := ∃ v, e = .returned v ∧ OwnInts w' w.heap.size v (groupOf L id) ∧ Th w' tag hd L c ∧ Off (Mut tag) w w'
/-- A set whose paths were halved is the set. -/
theorem ThP.topped {w w1 : World} {tag : Nat → Tag} {hd : Nat} {nd : List (Msg × Nat)} {c N T : Nat} {nm : Int → Option Nat} {live : Nat → Prop} {num : Nat → Int} {tm : Nat → List Tie} {up up1 root dep : Nat → Nat} {grp : Nat → List Nat} {tl : Tie → List Nat}
    (hp : ThP w tag hd nd c N T nm live num tm up root dep grp tl) (hM : Mem w1 tag hd N T nm live (fun g => up g = g) num tm up1 grp tl c) (hF : Forest live up1 root dep grp) (hi : ∀ y, live y → (up1 y = y ↔ up y = y)) : ThP w1 tag hd nd c N T nm live num tm up1 root dep grp tl :=
  { hp with whole := ⟨hM.less fun g hg h => (hi g hg).1 h, { hp.whole.knit with fst := hF }⟩ }

set_option maxRecDepth 100000 in
set_option maxHeartbeats 1000000 in
theorem group_any (id : Int) (w : World) {tag : Nat → Tag} {hd : Nat} {L : List Msg} {c : Nat} (h : Th w tag hd L c) (hL : L.length ≤ 1000) (hid : -9223372036854775808 ≤ id ∧ id ≤ 9223372036854775807) :
    Calls Try.prog 17 #[.pointer (some ⟨hd, 0, none⟩), .int .i64 id] w (GroupPost w tag hd L c id) := by
  obtain ⟨nd, N, T, nm, live, num, tm, up, root, dep, grp, tl, hp, hnd⟩ := h
  have hwf : (Lit.int .i64 id).wf = true := WalkArith.wf_i64 (by omega)
  have hm := hp.whole.mem
  have hh := hm.hdr
  have kh : w.cell? ⟨hd, 0, none⟩ = some (.map (some N)) := by simp [World.cell?, hh]
  have hlook := hm.nodes.look hwf
  have HP := Lib.hid hp
  have HND := Lib.hid hnd
  have HL := Lib.hid hL
  clear hp hnd hm hh hL hwf
  cases hnm : nm id with
  | none =>
    rw [hnm] at hlook
    unfold nodeOr at hlook
    have HNM := Lib.hid hnm
    clear hnm
    go_enter Try.func17, Try.ntmps17
    go_wp2
    go_ret
    refine ⟨_, rfl, ?_, ⟨nd, N, T, nm, live, num, tm, up, root, dep, grp, tl, HP.out, HND.out⟩, Off.refl _ _⟩
    rw [groupOf_none fun m hm e => by
      rw [← HND.out] at hm
      obtain ⟨g, hg⟩ := mem_msgs.1 hm
      have := (HP.out.name id g).2 ⟨m, hg, e⟩
      rw [HNM.out] at this; cases this]
    exact OwnInts.nil_ _ _
  | some g =>
    rw [hnm] at hlook
    unfold nodeOr ptr at hlook
    obtain ⟨m, hmg, hmid⟩ := (HP.out.name id g).1 hnm
    have hgl : live g := (HP.out.bears.lv g).2 ⟨m, hmg⟩
    have HMG := Lib.hid hmg
    have HMI := Lib.hid hmid
    have HGL := Lib.hid hgl
    clear hnm hmg hmid hgl
    go_enter Try.func17, Try.ntmps17
    go_wp2_with fail
    refine (top_any g w HP.out.whole.mem HP.out.whole.knit.fst HGL.out).mono ?_
    rintro e w1 ⟨rfl, up1, hM1, hF1, hi1, hO1⟩
    obtain ⟨r, hr⟩ : ∃ r, root g = r := ⟨_, rfl⟩
    rw [hr]
    have hrl : live r := hr ▸ HP.out.whole.knit.fst.rootL g HGL.out
    have hrr : up1 r = r := hr ▸ hF1.rootF g HGL.out
    have hP1 := HP.out.topped hM1 hF1 hi1
    obtain ⟨gr, n, cap, c3, -, hn, hn0, hown, htg, hgr, -⟩ := grp_row hM1 hF1 hrl hrr ((hi1 r hrl).1 hrr)
    have hlen : n ≤ 1000000 := by
      rw [hn]
      have hfew : Few live 1000 := ⟨nd.map (·.2), fun x hx => by obtain ⟨y, hy⟩ := (HP.out.bears.lv x).1 hx; exact List.mem_map.2 ⟨_, hy, rfl⟩, by have := HL.out; rw [← HND.out] at this; simpa [msgs] using this⟩
      have := hfew.le (hF1.grpN r hrl hrr) fun z hz => ((hF1.grpM r hrl hrr z).1 hz).1
      omega
    have hcells : ∀ j (hj : j < (grp r).length), ∃ g, (some ⟨gr, 0, none⟩ : Option Addr) = some ⟨g, 0, none⟩ ∧ g < w1.heap.size ∧ w1.cell? ⟨g, j, none⟩ = some (ptr (grp r)[j]) := fun j hj => by
      refine ⟨gr, rfl, hgr, ?_⟩
      have := hown.cells (g := gr) rfl j (ptr (grp r)[j]) (by simp [hj])
      by_cases e : j = 0
      · subst e; simpa [Addr.add] using this
      · simpa [Addr.add, e] using this
    have hids : ∀ x, x ∈ grp r → x < w1.heap.size ∧ w1.cell? ⟨x, 0, none⟩ = some (.int .i64 (num x)) ∧ -9223372036854775808 ≤ num x ∧ num x ≤ 9223372036854775807 := fun x hx => by
      have hxl := ((hF1.grpM r hrl hrr x).1 hx).1
      obtain ⟨y, hy⟩ := (HP.out.bears.lv x).1 hxl
      obtain ⟨_, _, c0, _⟩ := hM1.cells hxl
      have := HP.out.fine y x hy
      have e := HP.out.num y x hy
      exact ⟨(hM1.node_tag hxl).2, c0, by rw [e]; omega, by rw [e]; omega⟩
    have HP1 := Lib.hid hP1
    have HR := Lib.hid hr
    have HO1 := Lib.hid hO1
    have HN := Lib.hid hn
    have HC := Lib.hid hcells
    have HI := Lib.hid hids
    have HRL := Lib.hid hrl
    have HRR := Lib.hid hrr
    clear hM1 hF1 hi1 hO1 hr hrl hrr hP1 hn hown htg hcells hids
    go_wp2_with fail
    refine (numbers_any (some ⟨gr, 0, none⟩) n cap (grp r) num w1 HN.out.symm hlen HC.out HI.out).mono ?_
    rintro e w2 ⟨v, rfl, hv, hb⟩
    have HV := Lib.hid hv
    have HB := Lib.hid hb
    clear hv hb
    go_wp2
    go_ret
    have hq := HP1.out
    have hgrp : sortI ((grp r).map num) = groupOf L id := by
      rw [← HND.out, ← HMI.out]
      refine hq.bears.group hq.whole.knit hq.num HMG.out (sortI_asc (hq.bears.group_nodup hq.whole.knit hq.num HRL.out HRR.out)) fun j => ?_
      rw [mem_sortI, HR.out]
    refine ⟨_, rfl, by rw [← hgrp]; exact HV.out.more HO1.out.size, ?_, HO1.out.andThen (G := fun _ => False) ⟨HB.out.os, HB.out.tape, HB.out.output, HB.out.size, fun k hk _ => HB.out.block k hk⟩ fun _ _ h => h.elim⟩
    exact Th.off ⟨nd, N, T, nm, live, num, tm, up1, root, dep, grp, tl, hq, HND.out⟩ (.of_below HB.out (F := fun b => w1.heap.size ≤ b) fun _ _ h => h) hq.whole.mem.fresh

/-- What Of answers. -/
noncomputable def ofL (L : List Msg) (id : Int) : Int × Bool := match groupOf L id with | [] => (0, false) | x :: _ => (x, true)
def OfPost (w : World) (tag : Nat → Tag) (hd : Nat) (L : List Msg) (c : Nat) (id : Int) (e : Ending) (w' : World) : Prop := e = .returned (.tuple #[.int .i64 (ofL L id).1, .bool (ofL L id).2]) ∧ Th w' tag hd L c ∧ Off (Mut tag) w w'
set_option maxRecDepth 100000 in
set_option maxHeartbeats 1000000 in
theorem of_any (id : Int) (w : World) {tag : Nat → Tag} {hd : Nat} {L : List Msg} {c : Nat} (h : Th w tag hd L c) (hL : L.length ≤ 1000) (hid : -9223372036854775808 ≤ id ∧ id ≤ 9223372036854775807) :
    Calls Try.prog 14 #[.pointer (some ⟨hd, 0, none⟩), .int .i64 id] w (OfPost w tag hd L c id) := by
  have H := Lib.hid h
  have HL := Lib.hid hL
  clear h hL
  go_enter Try.func14, Try.ntmps14
  go_wp2_with fail
  refine (group_any id w H.out HL.out hid).mono ?_
  rintro e w1 ⟨v, rfl, hv, hT, hO⟩
  obtain ⟨A, cap, rfl, hcl, hcm, hI⟩ := hv.ints
  obtain ⟨gl, hgl⟩ : ∃ gl, groupOf L id = gl := ⟨_, rfl⟩
  rw [hgl] at hI hcl ⊢
  have HGL := Lib.hid hgl
  have HT := Lib.hid hT
  have HO := Lib.hid hO
  clear hgl hT hO hv
  cases gl with
  | nil =>
    go_wp2
    go_ret2
    have e : ofL L id = (0, false) := by unfold ofL; rw [HGL.out]
    exact ⟨by rw [e]; rfl, HT.out, HO.out⟩
  | cons x r =>
    obtain ⟨ad, rfl, _, hc⟩ := hI.at_ (k := 0) (by simp)
    have hg : gi (x :: r) 0 = x := rfl
    rw [hg] at hc
    rw [show ad.add 0 = ad by simp [Addr.add]] at hc
    have hl : 0 < (x :: r).length := by simp
    obtain ⟨n, hn⟩ : ∃ n, (x :: r).length = n := ⟨_, rfl⟩
    rw [hn] at hl ⊢
    have hd0 : ((n : Int) == 0) = false := by simp; omega
    clear hg hI hcl hn
    go_wp2
    go_ret2
    have e : ofL L id = (x, true) := by unfold ofL; rw [HGL.out]
    exact ⟨by rw [e]; rfl, HT.out, HO.out⟩
end Go.Proofs.Ytlobiebmaheflaa
