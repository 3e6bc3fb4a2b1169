/- Contract of Add. -/
import Derived.Test.YtlobiebmaheflaaTh
import Derived.Laws.AppendOwnNone
namespace Go.Proofs.Ytlobiebmaheflaa
open Go.RowKit
set_option linter.unusedVariables false

open Classical in
noncomputable def addErr (L : List Msg) (id : Int) : Int := if id < 1 then 1 else if ∃ m, m ∈ L ∧ m.id = id then 4 else 0
open Classical in
noncomputable def addL (L : List Msg) (m : Msg) : List Msg := if addErr L m.id = 0 then ins m L else L
def AddPost (w : World) (tag : Nat → Tag) (hd : Nat) (L : List Msg) (c : Nat) (m : Msg) (e : Ending) (w' : World) : Prop :=
  e = .returned (.int .i64 (addErr L m.id)) ∧ ∃ tag', Th w' tag' hd (addL L m) (c + 10) ∧ Off (Mut tag) w w' ∧ Grows w tag tag'

theorem str_info : (Try.prog.info? 9).map (fun i => (i.zero, i.size, i.bytes)) = some (some (.string ⟨#[]⟩), 1, 16) := by kernel_rfl
theorem tie_info : (Try.prog.info? 72).map (fun i => (i.zero, i.size, i.bytes)) = some (some (.agg #[.string ⟨#[]⟩, .string ⟨#[]⟩]), 2, 32) := by kernel_rfl

/-- What has been gathered of a new node: its ties so far. n: its block, sb: the row of strings. -/
def Gath (w : World) (n sb : Nat) (id : Int) (sv : Value) (names : List ByteArray) (TL : List Tie) (wr : World) : Prop :=
  ∃ tv, wr.heap[n]? = some (.cells #[.int .i64 id, tv, .pointer none, .slice none 0 0] 64 (0, 0)) ∧ wr.ownsRow 0 72 2 tv TL.length (TL.flatMap tieCells) ∧ (∀ b, tv.ownBlock = some b → w.heap.size ≤ b ∧ b ≠ n ∧ b ≠ sb) ∧
    wr.ownsRow 0 9 1 sv names.length (names.map Value.string) ∧ Below w.heap.size w wr

/-- One tie more. -/
theorem gath_push {w wr w2 X w3 : World} {n sb g3 cap3 tn tcap : Nat} {id : Int} {sv : Value} {names : List ByteArray} {TL : List Tie} {base x : ByteArray} {TA : Option Addr} (htn : TL.length = tn)
    (hnb : wr.heap[n]? = some (.cells #[.int .i64 id, .slice TA tn tcap, .pointer none, .slice none 0 0] 64 (0, 0))) (hto : wr.ownsRow 0 72 2 (.slice TA tn tcap) tn (TL.flatMap tieCells)) (htb : ∀ b, (Value.slice TA tn tcap).ownBlock = some b → w.heap.size ≤ b ∧ b ≠ n ∧ b ≠ sb)
    (hso : wr.ownsRow 0 9 1 sv names.length (names.map Value.string)) (hsv : sv.ownBlock = some sb) (hbel : Below w.heap.size w wr) (hsn : w.heap.size ≤ n) (hsbn : sb ≠ n)
    (h2 : Below (wr.heap.size + 1) (wr.alloc (.cells #[.string base, .string x] 72)) w2) (hX : X = (w2.alloc (.cells #[.string base, .string x] 72)).drew) (hgrow : X.grownBy w3 (Value.slice TA tn tcap).ownBlock)
    (hown3 : w3.ownsRow 0 72 2 (.slice (some ⟨g3, 0, none⟩) (tn + 1) cap3) (tn + 1) (TL.flatMap tieCells ++ [.string base, .string x])) (hat3 : (Value.slice TA tn tcap).ownBlock = some g3 ∨ g3 = X.heap.size) :
    Gath w n sb id sv names (TL ++ [(base, x)]) (w3.setCell ⟨n, 1, none⟩ (.slice (some ⟨g3, 0, none⟩) (tn + 1) cap3)) := by
  have hnl := heap_lt hnb
  have hsl := (hso.lt sb hsv).2
  have hs2 : wr.heap.size + 1 ≤ w2.heap.size := by have := h2.size; simpa using this
  have sX : X.heap.size = w2.heap.size + 1 := by rw [hX]; simp
  have hrow : ∀ b, (Value.slice TA tn tcap).ownBlock = some b → b < wr.heap.size := fun b e => (hto.lt b e).2
  have far : ∀ b, b < wr.heap.size → (Value.slice TA tn tcap).ownBlock ≠ some b → w3.heap[b]? = wr.heap[b]? := fun b hb hne => by
    rw [hgrow.block b (by omega) (fun e => hne e.symm), hX]
    exact ((MapKept.heap_alloc w2 _).2 b (by omega)).trans ((h2.block b (by omega)).trans ((MapKept.heap_alloc wr _).2 b hb))
  have hg3 : w.heap.size ≤ g3 ∧ g3 ≠ n ∧ g3 ≠ sb := by
    rcases hat3 with h | h
    · exact htb g3 h
    · have := hbel.size; exact ⟨by omega, by omega, by omega⟩
  have hn3 := (far n hnl (fun e => (htb n e).2.1 rfl)).trans hnb
  refine ⟨_, heap_setCell_same w3 n 1 _ 64 _ hn3, ?_, fun b e => ?_, ?_, ?_⟩
  · have e1 : (TL ++ [(base, x)]).length = tn + 1 := by rw [List.length_append, htn]; rfl
    have e2 : (TL ++ [(base, x)]).flatMap tieCells = TL.flatMap tieCells ++ [.string base, .string x] := by rw [List.flatMap_append]; rfl
    rw [e1, e2]
    exact ownsRow_block hown3 fun b e => heap_setCell_other _ _ _ _ (fun e2 => by have h3 : g3 = b := Option.some.inj e; exact hg3.2.1 (h3.trans e2))
  · have h3 : g3 = b := Option.some.inj e
    rw [← h3]; exact hg3
  · refine ownsRow_block hso fun b e => ?_
    have h3 : sb = b := Option.some.inj (hsv.symm.trans e)
    subst h3
    rw [heap_setCell_other _ _ _ _ hsbn]
    exact far sb hsl (fun e => (htb sb e).2.2 rfl)
  · have hb2 : Below w.heap.size w w2 := (hbel.alloc hbel.size _).trans (h2.mono (by have := hbel.size; omega))
    have hbX : Below w.heap.size w X := by rw [hX]; exact (hb2.alloc hb2.size _).drew
    exact (hbX.grown hgrow hbX.size (fun k e => (htb k e).1)).setCell (p := ⟨n, 1, none⟩) hsn _

/-- The new node stands alone. -/
theorem add_whole {w wr w3 w4 : World} {e : Ending} {tag : Nat → Tag} {hd : Nat} {nd : List (Msg × Nat)} {c N T : Nat} {nm : Int → Option Nat} {live : Nat → Prop} {num : Nat → Int} {tm : Nat → List Tie} {up root dep : Nat → Nat} {grp : Nat → List Nat} {tl : Tie → List Nat} {n : Nat} {id : Int} {tv : Value} {TL : List Tie}
    (hp : ThP w tag hd nd c N T nm live num tm up root dep grp tl) (hn : w.heap.size ≤ n) (hto : wr.ownsRow 0 72 2 tv TL.length (TL.flatMap tieCells)) (htb : ∀ b, tv.ownBlock = some b → w.heap.size ≤ b ∧ b ≠ n) (hbel : Below w.heap.size w wr) (hnl : n < wr.heap.size)
    (hput : NodesMap w3 N (upd nm id (some n)) (c + 1)) (hgr : wr.grownBy w3 (some N)) (h4 : AlonePost n (.int .i64 id) tv w3 e w4) :
    ∃ tag4, Whole w4 tag4 hd N T (upd nm id (some n)) (fun g => live g ∨ g = n) (upd num n id) (upd tm n TL) (fun g k => live g ∧ k ∈ tm g) (upd up n n) (upd root n n) dep (upd grp n [n]) tl (c + 1) ∧ Off (Mut tag) w w4 ∧ Grows w tag tag4 ∧ ¬ live n := by
  have hM := hp.whole.mem
  have hNl : N < w.heap.size := hM.nodes.lt
  have hnn : ¬ live n := fun hl => by have := (hM.node_tag hl).2; omega
  have hout : ∀ b, w.heap.size ≤ b → tag b = tOut := hM.fresh
  have m1 := hM.off (w' := wr) (F := fun b => w.heap.size ≤ b) (.of_below hbel fun k _ h => h) hout
  have m3 := m1.turnNodes hgr hput (by omega)
  obtain ⟨-, hs4, hb4, hx4, hO4⟩ := h4
  have m4 := m3.off hO4 (fun b e => by subst e; exact hout _ (by omega))
  have hw3 : wr.heap.size ≤ w3.heap.size := hgr.size
  have hto3 : w3.ownsRow 0 72 2 tv TL.length (TL.flatMap tieCells) := ownsRow_block hto fun b e => hgr.block b (hto.lt b e).2 (fun e2 => by have h1 := (htb b e).1; have h2 : b = N := Option.some.inj e2; omega)
  have hto4 : w4.ownsRow 0 72 2 tv TL.length (TL.flatMap tieCells) := ownsRow_block hto3 fun b e => hO4.block b (hto3.lt b e).2 (htb b e).2
  have m5 := m4.addNode (x := n) (i := id) (tv := tv) (gv := .slice (some ⟨w3.heap.size, 0, none⟩) 1 1) (u := n) (TL := TL) (l := [n]) (hout n (by omega)) hx4 hto4 (ownsRow_one hb4) (fun b e => ⟨hout b (htb b e).1, (htb b e).2⟩)
    (fun b e => by
      have h1 : w3.heap.size = b := Option.some.inj e
      subst h1
      exact ⟨hout _ (by omega), by omega, fun e2 => by have := (hto3.lt _ e2).2; omega⟩)
  have hk := (hp.whole.knit.congr (eff' := fun g k => live g ∧ k ∈ tm g) (fun _ => Iff.rfl) fun g k hg => ⟨fun h => ⟨hg, h⟩, fun h => h.2⟩).fresh hnn (fun k h => hnn h.1)
  refine ⟨_, ⟨m5.less fun g hg e => ?_, hk⟩, ?_, fun b hb => ?_, hnn⟩
  · by_cases e2 : g = n
    · exact .inr e2
    · rw [upd_other _ _ e2] at e; exact .inl e
  · have o1 : Off (Mut tag) w wr := ⟨hbel.os, hbel.tape, hbel.output, hbel.size, fun k hk _ => hbel.block k hk⟩
    have o3 := o1.grown hgr (fun k e => .inl (by have h2 : N = k := Option.some.inj e; subst h2; exact ⟨by rw [hM.tagN]; simp [tNodes, tOut], by rw [hM.tagN]; simp [tNodes]⟩))
    exact o3.andThen hO4 fun i hi e => by omega
  · unfold Mut
    dsimp only
    rw [if_neg (by omega), if_neg (fun e => by have := (htb b e).1; omega), if_neg (fun e => by have h1 : w3.heap.size = b := Option.some.inj e; omega)]
    exact ⟨fun h => h, fun h => h⟩
/-- The set that holds the new message. -/
theorem add_th {w5 w : World} {tag tag5 : Nat → Tag} {hd : Nat} {nd : List (Msg × Nat)} {c c' N T : Nat} {nm : Int → Option Nat} {live : Nat → Prop} {num : Nat → Int} {tm : Nat → List Tie} {up root dep up' root' dep' : Nat → Nat} {grp grp' : Nat → List Nat} {tl tl' : Tie → List Nat} {n : Nat} {m : Msg} {TL : List Tie}
    (hp : ThP w tag hd nd c N T nm live num tm up root dep grp tl) (hnn : ¬ live n) (hW : Whole w5 tag5 hd N T (upd nm m.id (some n)) (fun g => live g ∨ g = n) (upd num n m.id) (upd tm n TL) (effAll (fun g k => live g ∧ k ∈ tm g) n TL) up' root' dep' grp' tl' c')
    (hTL : ∀ k, k ∈ TL ↔ (k.1 = m.base ∧ k.2 ∈ m.ids)) (hnd : TL.Nodup) (h9 : TL.length ≤ 9) (hfit : ∀ k, k ∈ TL → TieFits k) (hid : 1 ≤ m.id ∧ m.id ≤ 9223372036854775807) (hno : nm m.id = none) : Th w5 tag5 hd (ins m (msgs nd)) c' := by
  have hne : ∀ x, x ∈ msgs nd → x.id ≠ m.id := fun x hx e => by
    obtain ⟨g, hg⟩ := mem_msgs.1 hx
    have := (hp.name m.id g).2 ⟨x, hg, e⟩
    rw [hno] at this; cases this
  have hmem : ∀ p, p ∈ insP (m, n) nd ↔ p = (m, n) ∨ p ∈ nd := fun p => mem_insP
  have hnl : ∀ x g, (x, g) ∈ nd → g ≠ n := fun x g h e => hnn (e ▸ (hp.bears.lv g).2 ⟨x, h⟩)
  refine ⟨insP (m, n) nd, N, T, _, _, _, upd tm n TL, up', root', dep', grp', tl', ⟨⟨hW.mem, hW.knit.congr (fun _ => Iff.rfl) fun g k hg => ?_⟩, ?_, fun i g => ?_, fun x g hg => ?_, fun x g hg => ?_⟩, msgs_insP _ _⟩
  · unfold effAll
    rcases hg with hg | rfl
    · have e : g ≠ n := fun e => hnn (e ▸ hg)
      rw [upd_other _ _ e]
      exact ⟨fun h => h.elim (fun h => h.2) (fun h => absurd h.1 e), fun h => .inl ⟨hg, h⟩⟩
    · rw [upd_same]
      exact ⟨fun h => h.elim (fun h => absurd h.1 hnn) (fun h => h.2), fun h => .inr ⟨rfl, h⟩⟩
  · exact hp.bears.come hnn hne (by rw [show (insP (m, n) nd).map (·.1) = ins m (msgs nd) from msgs_insP _ _]; exact ins_asc hp.bears.asc hne) hmem
      (fun g k hg => by rw [upd_other _ _ (fun e : g = n => hnn (e ▸ hg))]) (fun k => by rw [upd_same]; exact hTL k)
  · by_cases e : i = m.id
    · subst e
      rw [upd_same]
      constructor
      · intro h; injection h with h; subst h; exact ⟨m, (hmem _).2 (.inl rfl), rfl⟩
      · rintro ⟨x, hx, e⟩
        rcases (hmem _).1 hx with h | h
        · injection h with _ h; rw [h]
        · exact absurd e (hne x (mem_msgs.2 ⟨g, h⟩))
    · rw [upd_other _ _ e, hp.name]
      constructor
      · rintro ⟨x, hx, h⟩; exact ⟨x, (hmem _).2 (.inr hx), h⟩
      · rintro ⟨x, hx, h⟩
        rcases (hmem _).1 hx with h2 | h2
        · injection h2 with h2 _; subst h2; exact absurd h.symm e
        · exact ⟨x, h2, h⟩
  · rcases (hmem _).1 hg with h | h
    · injection h with h1 h2; subst h1; subst h2; exact upd_same _ _ _
    · rw [upd_other _ _ (hnl x g h)]; exact hp.num x g h
  · rcases (hmem _).1 hg with h | h
    · injection h with h1 h2; subst h1; subst h2
      rw [upd_same]; exact ⟨hid.1, hid.2, hnd, h9, hfit⟩
    · rw [upd_other _ _ (hnl x g h)]; exact hp.fine x g h

theorem drewBelow' {B : Nat} {a : World} (k : Nat) : Below B a (a.drewN k) := ⟨rfl, rfl, rfl, Nat.le_refl _, fun _ _ => rfl⟩
set_option maxRecDepth 100000 in
set_option maxHeartbeats 4000000 in
theorem add_any (id : Int) (own base : ByteArray) (refs : List ByteArray) (A : Option Addr) (rn rc : Nat) (w : World) {tag : Nat → Tag} {hd : Nat} {L : List Msg} {c : Nat} (h : Th w tag hd L c) (hid : -9223372036854775808 ≤ id ∧ id ≤ 9223372036854775807)
    (hr : Strs w w.heap.size A rn refs) (hrn : rn ≤ 8) (hrc : rn ≤ rc) (hnil : A = none → rc = 0) (hrcm : rc ≤ maxLen) (hown : Fits own) (hbase : Fits base) (hL : L.length ≤ 100) (hc : c ≤ 50000) :
    Calls Try.prog 26 #[.pointer (some ⟨hd, 0, none⟩), .int .i64 id, .string own, .slice A rn rc, .string base] w (AddPost w tag hd L c ⟨id, idsOf own refs, base⟩) := by
  obtain ⟨nd, N, T, nm, live, num, tm, up, root, dep, grp, tl, hp, hnd⟩ := h
  have hwf : (Lit.int .i64 id).wf = true := WalkArith.wf_i64 (by omega)
  have hm := hp.whole.mem
  have hh := hm.hdr
  have kh : w.cell? ⟨hd, 0, none⟩ = some (.map (some N)) := by simp [World.cell?, hh]
  have hlook := hm.nodes.look hwf
  obtain ⟨sz, hlen, hsz⟩ := hm.nodes.len 3
  have HP := Lib.hid hp
  have HND := Lib.hid hnd
  have HH := Lib.hid hh
  have HR := Lib.hid hr
  have HOWN := Lib.hid hown
  have HBASE := Lib.hid hbase
  have HWF := Lib.hid hwf
  have HLL := Lib.hid hL
  clear hp hnd hm hh hr hown hbase hwf hL
  by_cases hlt : id < 1
  · have HE := Lib.hid (show addErr L id = 1 by unfold addErr; rw [if_pos hlt])
    clear hlook
    go_enter Try.func26, Try.ntmps26
    go_wp2
    go_ret
    refine ⟨by rw [HE.out]; rfl, tag, ?_, Off.refl _ _, Grows.refl _ _⟩
    have : addL L ⟨id, idsOf own refs, base⟩ = L := by unfold addL; rw [if_neg (by rw [HE.out]; omega)]
    rw [this]
    exact Th.mono ⟨nd, N, T, nm, live, num, tm, up, root, dep, grp, tl, HP.out, HND.out⟩ (by omega)
  · have hge : 1 ≤ id := by omega
    have hd1 : decide (id < 1) = false := by simp; omega
    cases hnm : nm id with
    | some g =>
      rw [hnm] at hlook
      unfold nodeOr ptr at hlook
      have HNM := Lib.hid hnm
      clear hnm hlt
      go_enter Try.func26, Try.ntmps26
      go_wp2
      go_ret
      have hex : ∃ x, x ∈ L ∧ x.id = id := by
        obtain ⟨x, hx, e⟩ := (HP.out.name id g).1 HNM.out
        exact ⟨x, by rw [← HND.out]; exact mem_msgs.2 ⟨g, hx⟩, e⟩
      have he4 : addErr L id = 4 := by unfold addErr; rw [if_neg (by omega), if_pos hex]
      refine ⟨by rw [he4]; rfl, tag, ?_, Off.refl _ _, Grows.refl _ _⟩
      have : addL L ⟨id, idsOf own refs, base⟩ = L := by unfold addL; rw [if_neg (by rw [he4]; omega)]
      rw [this]
      exact Th.mono ⟨nd, N, T, nm, live, num, tm, up, root, dep, grp, tl, HP.out, HND.out⟩ (by omega)
    | none =>
      rw [hnm] at hlook
      unfold nodeOr at hlook
      have HNM := Lib.hid hnm
      clear hnm hlt
      go_enter Try.func26, Try.ntmps26
      have hd2 : decide ((1000 : Int) < rn) = false := by simp; omega
      have hd3 : decide ((65536 : Int) ≤ sz) = false := by simp; omega
      have hsz' : sz ≤ 50000 := by omega
      have HNIL := Lib.hid hnil
      clear hnil
      go_upto_region 8 with (fail)
      clear hlook hlen hd1 hd2 hd3
      obtain ⟨W, hW⟩ : ∃ W, W = w.alloc (.cells #[.int .i64 id, .slice none 0 0, .pointer none, .slice none 0 0] 64) := ⟨_, rfl⟩
      obtain ⟨n, hn⟩ : ∃ n, n = w.heap.size := ⟨_, rfl⟩
      rw [← hW, ← hn]
      have HW := Lib.hid hW
      have HN := Lib.hid hn
      clear hW hn
      go_cut [44, 45, 46] (fun v l i wc => ∃ sb cap m, v = .slice (some ⟨sb, 0, none⟩) m cap ∧ l = .int .i64 (m : Int) ∧ i = .int .i64 0 ∧ Hid (m = rn + 1) ∧ Hid (Gath w n sb id v (own :: refs) [] wc) ∧ Hid (w.heap.size ≤ sb ∧ sb ≠ n ∧ m ≤ cap ∧ cap ≤ maxLen))
      case first =>
        obtain ⟨i0, hi, hz0, hz1, hz2⟩ := info_parts str_info
        have hsW : W.heap.size = w.heap.size + 1 := by rw [HW.out]; simp
        have hown0 : (W.alloc (.cells #[.string own] 9)).ownsRow 0 9 1 (.slice (some ⟨W.heap.size, 0, none⟩) 1 1) 1 [.string own] := ownsRow_one (MapKept.heap_alloc W _).1
        have hbW : Below w.heap.size w (W.alloc (.cells #[.string own] 9)) := by rw [HW.out]; exact ((Below.refl _ _).alloc (Nat.le_refl _) _).alloc (by simp) _
        have hnb : (W.alloc (.cells #[.string own] 9)).heap[n]? = some (.cells #[.int .i64 id, .slice none 0 0, .pointer none, .slice none 0 0] 64 (0, 0)) := by
          rw [(MapKept.heap_alloc W _).2 n (by rw [HN.out, hsW]; omega), HW.out, HN.out]; exact (MapKept.heap_alloc w _).1
        have HSW := Lib.hid hsW
        have HOW0 := Lib.hid hown0
        have HBW := Lib.hid hbW
        have HNB := Lib.hid hnb
        clear hsW hown0 hbW hnb
        cases A with
        | none =>
          obtain ⟨hl0, -, hrun⟩ := HR.out
          have hrefs : refs = [] := by
            rcases hrun with h1 | ⟨_, h1, _⟩
            · exact List.map_eq_nil_iff.1 h1
            · cases h1
          have hr0 : rn = 0 := by rw [hl0, hrefs]; rfl
          have hc0 := HNIL.out rfl
          subst hr0
          subst hc0
          have HREFS := Lib.hid hrefs
          clear hl0 hrun hrefs
          go_wp2_with (at_builtin; refine wpList_append_own_none rfl _ _ _ rfl 0 9 i0 1 Try.underlying32 hi _ _ _ rfl (by exact HOW0.out) rfl ?_)
          go_meet
          case rel =>
            refine ⟨_, 1, 1, rfl, rfl, rfl, rfl, ⟨.slice none 0 0, HNB.out, World.ownsRow_nil _ _ _ _, (fun b e => by cases e), by rw [HREFS.out]; exact HOW0.out, HBW.out⟩, ?_⟩
            exact ⟨by rw [HSW.out]; omega, by rw [HSW.out, HN.out]; omega, by omega, by simp only [maxLen]; omega⟩
        | some ad =>
          have hnews : ∀ j u, (refs.map Value.string)[j]? = some u → (W.alloc (.cells #[.string own] 9)).cell? (ad.add j) = some u := fun j u hu => by
            rcases HR.out.2.2 with h1 | ⟨ad', h1, hb, h2⟩
            · rw [h1] at hu; simp at hu
            · injection h1 with h1
              subst h1
              rw [HBW.out.cell (by rw [add_block]; exact hb)]
              exact h2 j u hu
          have HNEWS := Lib.hid hnews
          have HRL := Lib.hid (show (refs.map Value.string).length = rn * 1 by rw [List.length_map, ← HR.out.1]; omega)
          clear hnews
          go_wp2_with (at_builtin; refine wpList_append_own_at _ rfl _ _ _ rfl 0 9 i0 (.string ⟨#[]⟩) 1 16 Try.underlying32 hi hz0 hz1 hz2 rfl (by omega) _ _ _ rfl (by exact HOW0.out) ad rn rc _ rfl HRL.out (by exact HNEWS.out) (by intro u hu; obtain ⟨x, -, rfl⟩ := List.mem_map.1 hu; rfl) (by simp only [maxLen]; omega) (by omega) (Nat.zero_le _) ?_; intro v' w1 hown1 hg1 _ hat1; obtain ⟨sb, cap, rfl, -, hsb⟩ := hown1.form (by omega); obtain ⟨m, hm⟩ : ∃ m, 1 + rn = m := ⟨_, rfl⟩; have HM := Lib.hid hm; have HOWN1 := Lib.hid hown1; have HG1 := Lib.hid hg1; have HAT1 := Lib.hid hat1; rw [hm]; clear hm hown1 hg1 hat1)
          go_meet
          case rel =>
            have hs2 : (W.alloc (.cells #[.string own] 9)).heap.size = w.heap.size + 2 := by simp [HSW.out]
            have hsb2 : w.heap.size + 1 ≤ sb := by
              rcases HAT1.out with h1 | h1
              · have h3 : sb = W.heap.size := Option.some.inj h1
                rw [h3, HSW.out]; exact Nat.le_refl _
              · have h3 : sb = (W.alloc (.cells #[.string own] 9)).heap.size := Option.some.inj h1
                rw [h3, hs2]; omega
            have hnr : n ≠ sb := by rw [HN.out]; omega
            have hgrow : Below w.heap.size w w1 := HBW.out.grown HG1.out (by rw [hs2]; omega) (fun k e => by have h3 : W.heap.size = k := Option.some.inj e; rw [← h3, HSW.out]; omega)
            have hnb1 : w1.heap[n]? = some (.cells #[.int .i64 id, .slice none 0 0, .pointer none, .slice none 0 0] 64 (0, 0)) := (HG1.out.block n (by rw [hs2, HN.out]; omega) (fun e => by have h3 : n = W.heap.size := Option.some.inj e; rw [HSW.out, HN.out] at h3; omega)).trans HNB.out
            have hcap := HOWN1.out.2
            refine ⟨sb, cap, m, rfl, rfl, rfl, by rw [← HM.out, Nat.add_comm]; rfl, ⟨.slice none 0 0, hnb1, World.ownsRow_nil _ _ _ _, (fun b e => by cases e), ?_, hgrow⟩, by omega, fun e => hnr e.symm, ?_⟩
            · rw [List.length_cons, List.map_cons, ← HR.out.1, Nat.add_comm rn 1, ← HM.out]; exact HOWN1.out
            · rcases hcap with ⟨h1, _⟩ | ⟨g', cap', cur, h1, _, _, h2, h3, _⟩
              · cases h1
              · injection h1 with h1 h4 h5
                subst h5
                exact ⟨by rw [← HM.out]; exact h2, h3⟩
      case rest =>
        obtain ⟨sb, cap, m, rfl, rfl, rfl, hm, hG, hS⟩ := hcut
        have HM := hm
        have hm9 : m ≤ 9 := by have := hm.out; omega
        clear hm
        obtain ⟨hsb1, hsb2, hcap1, hcap2⟩ := hS.out
        have HS := hS
        have hcap3 : cap ≤ 9223372036854775807 := by simpa only [maxLen] using hcap2
        have HG := hG
        clear hS hG hcap2
        go_wp2
        go_loopw [46] (fun i wr => ∃ j : Nat, j ≤ m ∧ i = .int .i64 j ∧ Hid (Gath w n sb id (.slice (some ⟨sb, 0, none⟩) m cap) (own :: refs) (tiesOf base ((own :: refs).take j)) wr)) (fun i _ => m - (intOf i).toNat)
        case atStart => exact ⟨0, Nat.zero_le _, rfl, HG⟩
        case round =>
          clear HG
          obtain ⟨j, hj, rfl, hG⟩ := hrel
          by_cases hlt : j < m
          · have hjl : j < (own :: refs).length := by rw [List.length_cons, ← HR.out.1, ← HM.out]; exact hlt
            obtain ⟨x, hx⟩ : ∃ x, (own :: refs)[j] = x := ⟨_, rfl⟩
            obtain ⟨TL, hTL⟩ : ∃ TL, tiesOf base ((own :: refs).take j) = TL := ⟨_, rfl⟩
            have hnext : tiesOf base ((own :: refs).take (j + 1)) = stepT base TL x := by
              rw [List.take_succ_eq_append_getElem hjl, hx]
              unfold tiesOf at hTL ⊢
              rw [List.foldl_append, hTL]; rfl
            have htl : TL.length ≤ 9 := by
              rw [← hTL]
              have := len_fold (base := base) ((own :: refs).take j) []
              unfold tiesOf
              simp only [List.length_nil, List.length_take] at this
              omega
            rw [hTL] at hG
            obtain ⟨tv, hnb, hto, htb, hso, hbel⟩ := hG.out
            have kx : wr.cell? ⟨sb, j, none⟩ = some (.string x) := by
              have := hso.cells (g := sb) rfl j (.string x) (by rw [List.getElem?_map, List.getElem?_eq_getElem hjl, hx]; rfl)
              by_cases e : j = 0
              · subst e; simpa [Addr.add] using this
              · simpa [Addr.add, e] using this
            have kn : wr.cell? ⟨n, 1, none⟩ = some tv := by simp [World.cell?, hnb]
            have knf : wr.frozen? ⟨n, 1, none⟩ = false := by simp [World.frozen?, hnb]
            have hsl : sb < wr.heap.size := (hso.lt sb rfl).2
            have hnl : n < wr.heap.size := heap_lt hnb
            obtain ⟨TA, tcap, rfl, htc1, htc2, hta⟩ := TieRow.at_ (tag := fun b => if tv.ownBlock = some b then tOwn 0 else tOut) (t := tOwn 0) ⟨hto, fun b e => if_pos e⟩
            have HX := Lib.hid hx
            have HTL := Lib.hid hTL
            have HNEXT := Lib.hid hnext
            have HNB := Lib.hid hnb
            have HTO := Lib.hid hto
            have HTBB := Lib.hid htb
            have HSO := Lib.hid hso
            have HBEL := Lib.hid hbel
            have HTA := Lib.hid hta
            clear hx hTL hnext hG hnb hto htb hso hbel hta
            have hj2 : (j : Int) < m := by omega
            by_cases hx0 : x.toList = []
            · have hx1 : x.toList.isEmpty = true := by rw [hx0]; rfl
              have HX0 := Lib.hid hx0
              clear hx0
              go_wp2
              go_quiet (fail)
              go_wp2
              go_roundw
              case rel =>
                refine ⟨j + 1, by omega, by go_num, ?_⟩
                rw [HNEXT.out]
                have hst : stepT base TL x = TL := by unfold stepT; simp only [HX0.out, true_or, if_true]
                rw [hst]
                refine ⟨_, ((MapKept.heap_alloc wr _).2 n hnl).trans HNB.out, ownsRow_block HTO.out fun b e => (MapKept.heap_alloc wr _).2 b (HTO.out.lt b e).2, HTBB.out, ownsRow_block HSO.out fun b e => (MapKept.heap_alloc wr _).2 b (HSO.out.lt b e).2, (HBEL.out.alloc HBEL.out.size _).trans (drewBelow' nq)⟩
              case measure => simp [intOf] <;> omega
            · have hx1 : x.toList.isEmpty = false := by cases hxx : x.toList with | nil => exact absurd hxx hx0 | cons a r => rfl
              have HX0 := Lib.hid hx0
              clear hx0
              obtain ⟨tn, htn⟩ : ∃ tn, TL.length = tn := ⟨_, rfl⟩
              have HTN := Lib.hid htn
              rw [htn] at kn htc1 htl
              clear htn
              have hB : (wr.alloc (.cells #[.string base, .string x] 72)).heap[wr.heap.size]? = some (.cells #[.string base, .string x] 72 (0, 0)) := (MapKept.heap_alloc wr _).1
              have HCELLS : Hid (TieCells (wr.alloc (.cells #[.string base, .string x] 72)).drew TA TL) := fun j' hj' => by
                obtain ⟨g, h1, -, h2, h3, h4⟩ := HTA.out j' hj'
                exact ⟨g, h1, by show g < (wr.alloc _).heap.size; simp; omega, (World.cell?_alloc_past _ _ _ h2).trans h3, (World.cell?_alloc_past _ _ _ h2).trans h4⟩
              have HB := Lib.hid hB
              clear hB
              have hnm : n < wr.heap.size := hnl
              go_wp2
              go_cut [63] (fun t wc => ∃ b : Bool, t = .bool b ∧ Hid (b = true ↔ ¬ (base, x) ∈ TL) ∧ Hid (Below (wr.heap.size + 1) (wr.alloc (.cells #[.string base, .string x] 72)) wc))
              case first =>
                go_region_with ((go_at_call 36; refine (has_any TA tn tcap TL (base, x) _ HTN.out (by omega) HCELLS.out).mono ?_; rintro e w2 ⟨b, rfl, hbb, hb2⟩; have HBB := Lib.hid hbb; have HB2 := Lib.hid hb2; clear hbb hb2))
                all_goals
                  go_wp2
                  go_meet
                  case rel =>
                    refine ⟨!b, rfl, ?_, ?_⟩
                    · have := HBB.out
                      cases b
                      · exact ⟨fun _ h => Bool.noConfusion (this.2 h), fun _ => rfl⟩
                      · exact ⟨fun h => Bool.noConfusion h, fun h => absurd (this.1 rfl) h⟩
                    · have h1 := HB2.out
                      exact ⟨h1.os, h1.tape, h1.output, h1.size, fun k hk => h1.block k (by simp; exact hk)⟩
              case rest =>
                obtain ⟨b, rfl, hbb, hb2⟩ := hcut
                have HBB := hbb
                have HB2 := hb2
                clear hbb hb2
                have hz2 : wr.heap.size + 1 ≤ wc.heap.size := by have := HB2.out.size; simpa using this
                cases b with
                | false =>
                  go_wp2
                  go_roundw
                  case rel =>
                    refine ⟨j + 1, by omega, by go_num, ?_⟩
                    rw [HNEXT.out]
                    have hst : stepT base TL x = TL := by
                      have hin : (base, x) ∈ TL := Classical.byContradiction fun h => Bool.noConfusion (HBB.out.2 h)
                      unfold stepT; simp only [hin, or_true, if_true]
                    rw [hst]
                    have keep : ∀ b, b < wr.heap.size → wc.heap[b]? = wr.heap[b]? := fun b hb => (HB2.out.block b (by omega)).trans ((MapKept.heap_alloc wr _).2 b hb)
                    exact ⟨_, (keep n hnl).trans HNB.out, ownsRow_block HTO.out fun b e => keep b (HTO.out.lt b e).2, HTBB.out, ownsRow_block HSO.out fun b e => keep b (HSO.out.lt b e).2, (HBEL.out.alloc HBEL.out.size _).trans (HB2.out.mono (by have := HBEL.out.size; omega))⟩
                  case measure => simp [intOf] <;> omega
                | true =>
                  have keep : ∀ b, b < wr.heap.size → wc.heap[b]? = wr.heap[b]? := fun b hb => (HB2.out.block b (by omega)).trans ((MapKept.heap_alloc wr _).2 b hb)
                  have kn2 : wc.cell? ⟨n, 1, none⟩ = some (.slice TA tn tcap) := (World.cell?_of_block (a := ⟨n, 1, none⟩) (keep n hnl)).trans kn
                  have knf2 : wc.frozen? ⟨n, 1, none⟩ = false := (World.frozen?_of_block (a := ⟨n, 1, none⟩) (keep n hnl)).trans knf
                  have hkb : wc.heap[wr.heap.size]? = some (.cells #[.string base, .string x] 72 (0, 0)) := (HB2.out.block _ (by omega)).trans HB.out
                  have kb0 : wc.cell? ⟨wr.heap.size, 0, none⟩ = some (.string base) := by simp [World.cell?, hkb]
                  have kb1 : wc.cell? ⟨wr.heap.size, 1, none⟩ = some (.string x) := by simp [World.cell?, hkb]
                  have hnc : n < wc.heap.size := by omega
                  obtain ⟨kblk, hkblk⟩ : ∃ q, wr.heap.size = q := ⟨_, rfl⟩
                  have hkc : kblk < wc.heap.size := by omega
                  rw [hkblk] at kb0 kb1 ⊢
                  clear hkb keep kn knf kx
                  obtain ⟨i0, hi, hz0, hz1, hz2⟩ := info_parts tie_info
                  have HTO' : Hid (wr.ownsRow 0 72 2 (.slice TA tn tcap) tn (TL.flatMap tieCells)) := by have h1 := HTO.out; rw [HTN.out] at h1; exact h1
                  have HTBB' : Hid (∀ b, (Value.slice TA tn tcap).ownBlock = some b → w.heap.size ≤ b ∧ b ≠ n ∧ b ≠ sb) := by have h1 := HTBB.out; rw [HTN.out] at h1; exact h1
                  have HNB' : Hid (wr.heap[n]? = some (.cells #[.int .i64 id, .slice TA tn tcap, .pointer none, .slice none 0 0] 64 (0, 0))) := by have h1 := HNB.out; rw [HTN.out] at h1; exact h1
                  obtain ⟨X, hX⟩ : ∃ X, X = (wc.alloc (.cells #[.string base, .string x] 72)).drew := ⟨_, rfl⟩
                  have hXo : X.ownsRow 0 72 2 (.slice TA tn tcap) tn (TL.flatMap tieCells) := by
                    rw [hX]
                    exact ownsRow_block HTO'.out fun b e => ((MapKept.heap_alloc wc _).2 b (by have := (HTO'.out.lt b e).2; omega)).trans ((HB2.out.block b (by have := (HTO'.out.lt b e).2; omega)).trans ((MapKept.heap_alloc wr _).2 b (HTO'.out.lt b e).2))
                  have hXn : ∀ j u, [Value.string base, Value.string x][j]? = some u → X.cell? ((⟨wc.heap.size, 0, none⟩ : Addr).add j) = some u := by
                    rw [hX]; exact World.news_of_block (w := (wc.alloc (.cells #[.string base, .string x] 72)).drew) (MapKept.heap_alloc wc _).1
                  have hXs : X.heap.size = wc.heap.size + 1 := by rw [hX]; simp
                  have e2X : X.cell? ⟨n, 1, none⟩ = some (.slice TA tn tcap) := by rw [hX]; exact (World.cell?_alloc_past _ _ _ hnc).trans kn2
                  have f2X : X.frozen? ⟨n, 1, none⟩ = false := by rw [hX]; exact (World.frozen?_alloc_past _ _ _ hnc).trans knf2
                  rw [hX] at hXo hXn
                  have HX := Lib.hid hX
                  have HXO := Lib.hid hXo
                  have HXN := Lib.hid hXn
                  have HXS := Lib.hid hXs
                  have HE2 := Lib.hid e2X
                  have HF2 := Lib.hid f2X
                  have HKQ := Lib.hid hkblk
                  clear hX hXo hXn hXs e2X f2X hkblk
                  have HNC : Hid (∀ w3, X.grownBy w3 (Value.slice TA tn tcap).ownBlock → w3.cell? ⟨n, 1, none⟩ = some (.slice TA tn tcap) ∧ w3.frozen? ⟨n, 1, none⟩ = false) := fun w3 h => by
                    have hl : n < X.heap.size := by rw [HXS.out]; omega
                    have hne : some n ≠ (Value.slice TA tn tcap).ownBlock := fun e => (HTBB'.out n e.symm).2.1 rfl
                    exact ⟨(h.cell_far ⟨n, 1, none⟩ hl hne).trans HE2.out, (h.frozen_far ⟨n, 1, none⟩ hl hne).trans HF2.out⟩
                  go_wp2
                  go_region_law ((refine step_append_lies _ (by rfl) _ _ _ (by rfl) 0 72 i0 (.agg #[.string ⟨#[]⟩, .string ⟨#[]⟩]) 2 32 Try.underlying61 hi hz0 hz1 hz2 rfl (by omega) (.slice TA tn tcap) tn _ (by rfl) (by exact HXO.out) ⟨wc.heap.size, 0, none⟩ 1 1 [.string base, .string x] (by rfl) rfl (by exact HXN.out) (by intro u hu; simp at hu; rcases hu with rfl | rfl <;> rfl) (by omega) (by simp only [maxLen]; omega) (by omega) (Nat.zero_le _) _ rfl ?_; intro g3 cap3 w3 hown3 hgrow hat3 hlt3; rw [← HX.out] at hgrow hat3; have hcc := HNC.out w3 hgrow; have hc1 := hcc.1; have hc2 := hcc.2; have G1 := Lib.hid hown3; have G2 := Lib.hid hgrow; have G3 := Lib.hid hat3; clear hown3 hgrow hat3 hlt3 hcc))
                  all_goals
                    go_wp2
                    go_roundw
                    case rel =>
                      refine ⟨j + 1, by omega, by go_num, ?_⟩
                      rw [HNEXT.out]
                      have hst : stepT base TL x = TL ++ [(base, x)] := by
                        have hno : ¬ (x.toList = [] ∨ (base, x) ∈ TL) := fun h => h.elim HX0.out (HBB.out.1 (by first | rfl | trivial))
                        unfold stepT; simp only [hno, if_false]
                      rw [hst]
                      exact gath_push HTN.out HNB'.out HTO'.out HTBB'.out HSO.out rfl HBEL.out (by rw [HN.out]; exact Nat.le_refl _) HS.out.2.1 HB2.out HX.out G2.out G1.out G3.out
                    case measure => simp [intOf] <;> omega
          · obtain rfl : j = m := by omega
            obtain ⟨tv, hnb, hto, htb, hso, hbel⟩ := hG.out
            have hfull : (own :: refs).take j = own :: refs := List.take_of_length_le (by rw [List.length_cons, ← HR.out.1, HM.out]; exact Nat.le_refl _)
            rw [hfull] at hto
            obtain ⟨TL, hTL⟩ : ∃ TL, tiesOf base (own :: refs) = TL := ⟨_, rfl⟩
            rw [hTL] at hto
            have hhl : hd < w.heap.size := heap_lt HH.out
            have kh3 : wr.cell? ⟨hd, 0, none⟩ = some (.map (some N)) := (hbel.cell (p := ⟨hd, 0, none⟩) hhl).trans kh
            have hN1 : NodesMap wr N nm c := HP.out.whole.mem.nodes.keep (hbel.block N HP.out.whole.mem.nodes.lt)
            obtain ⟨w3, hrun3, hput, hgr⟩ := hN1.put (by simp only [maxLen]; omega) HWF.out n
            unfold ptr at hrun3
            have hnl : n < wr.heap.size := heap_lt hnb
            have hnN : n ≠ N := by have := HP.out.whole.mem.nodes.lt; have := HN.out; omega
            have hb3 : w3.heap[n]? = some (.cells #[.int .i64 id, tv, .pointer none, .slice none 0 0] 64 (0, 0)) := (hgr.block n hnl (fun e => hnN (Option.some.inj e))).trans hnb
            have HB3 := Lib.hid hb3
            have HTO := Lib.hid hto
            have HTB := Lib.hid htb
            have HBEL := Lib.hid hbel
            have HPUT := Lib.hid hput
            have HGR := Lib.hid hgr
            have HTL := Lib.hid hTL
            have HNL := Lib.hid hnl
            clear hG hnb hto htb hso hbel hfull hTL hN1 hput hgr hb3 hnl hnN
            go_wp2_with fail
            refine (alone_any _ n _ _ _ _ w3 HB3.out).mono ?_
            intro e w4 h4
            have he : e = .returned (.tuple #[]) := h4.1
            subst he
            obtain ⟨tag4, hW4, hO4, hG4, hnn⟩ := add_whole HP.out (Nat.le_of_eq HN.out.symm) HTO.out (fun b e => ⟨(HTB.out b e).1, (HTB.out b e).2.1⟩) HBEL.out HNL.out HPUT.out HGR.out h4
            have HW4 := Lib.hid hW4
            have HO4 := Lib.hid hO4
            have HG4 := Lib.hid hG4
            have HNN := Lib.hid hnn
            have hmt : ∀ k, k ∈ TL ↔ (k.1 = base ∧ k.2 ∈ idsOf own refs) := fun k => by rw [← HTL.out]; exact mem_tiesOf
            have hndp : TL.Nodup := by rw [← HTL.out]; exact nodup_fold _ _ List.nodup_nil
            have h9 : TL.length ≤ 9 := by
              rw [← HTL.out]
              have := len_fold (base := base) (own :: refs) []
              have := HR.out.1
              unfold tiesOf
              simp only [List.length_nil, List.length_cons] at *
              omega
            have hfit : ∀ k, k ∈ TL → TieFits k := fun k hk => by
              obtain ⟨h1, h2⟩ := (hmt k).1 hk
              refine ⟨h1 ▸ HBASE.out, ?_⟩
              rcases List.mem_cons.1 (List.mem_filter.1 h2).1 with h3 | h3
              · rw [h3]; exact HOWN.out
              · exact HR.out.2.1 _ h3
            have HMT := Lib.hid hmt
            have HND2 := Lib.hid hndp
            have HFIT := Lib.hid hfit
            clear h4 hW4 hO4 hG4 hnn hmt hndp hfit hrun3 kh3
            go_wp2_with fail
            have e5 : upd tm n TL n = TL := upd_same _ _ _
            refine (tied_any n w4 HW4.out (.inr rfl) (by rw [e5]; exact HFIT.out) (fun k _ h => HNN.out h.1) (by rw [e5]; exact HND2.out) ?_ (by rw [e5]; omega)).mono ?_
            · refine ⟨n :: nd.map (·.2), fun g hg => ?_, ?_⟩
              · rcases hg with hg | rfl
                · obtain ⟨x, hx⟩ := (HP.out.bears.lv g).1 hg
                  exact List.mem_cons_of_mem _ (List.mem_map.2 ⟨_, hx, rfl⟩)
                · exact List.mem_cons_self
              · have h1 : nd.length ≤ 100 := by have := HLL.out; rw [← HND.out] at this; simpa [msgs] using this
                simp; omega
            · rintro e w5 ⟨rfl, tag5, up5, root5, dep5, grp5, tl5, hW5, hO5, hG5⟩
              rw [e5] at hW5
              have HW5 := Lib.hid hW5
              have HO5 := Lib.hid hO5
              have HG5 := Lib.hid hG5
              clear hW5 hO5 hG5 e5
              go_wp2
              go_ret
              have hno : ¬ ∃ x, x ∈ L ∧ x.id = id := by
                rintro ⟨x, hx, e⟩
                rw [← HND.out] at hx
                obtain ⟨g, hg⟩ := mem_msgs.1 hx
                have := (HP.out.name id g).2 ⟨x, hg, e⟩
                rw [HNM.out] at this; cases this
              have he0 : addErr L id = 0 := by unfold addErr; rw [if_neg (by omega), if_neg hno]
              refine ⟨by rw [he0]; rfl, tag5, ?_, HO4.out.grows HO5.out HG4.out, HG4.out.trans HG5.out HO4.out.size⟩
              have hth := add_th (m := ⟨id, idsOf own refs, base⟩) HP.out HNN.out HW5.out HMT.out HND2.out h9 HFIT.out ⟨hge, hid.2⟩ HNM.out
              rw [HND.out] at hth
              have hal : addL L ⟨id, idsOf own refs, base⟩ = ins ⟨id, idsOf own refs, base⟩ L := by unfold addL; rw [if_pos he0]
              rw [hal]
              exact hth.mono (by omega)
end Go.Proofs.Ytlobiebmaheflaa
