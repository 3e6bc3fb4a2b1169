/- Contracts of slices.Clone at ties, and of Copy: the copy holds the same messages in memory of its own. -/
import Derived.Test.YtlobiebmaheflaaAll
import Derived.Lib.SliceRun
namespace Go.Proofs.Ytlobiebmaheflaa
open Go.RowKit
set_option linter.unusedVariables false

theorem ranges_blocks {w w' : World} {b r n : Nat} {D : DataW Value} {left : Lit → Bool} {cnt : Nat} (h : w.ranges Try.prog 3 asIs b r n D left cnt) (hb' : w'.heap[b]? = w.heap[b]?) (hr' : w'.heap[r]? = w.heap[r]?) : w'.ranges Try.prog 3 asIs b r n D left cnt := by
  obtain ⟨es, clock, since, seen, c0, hb, F, hs, hD, hr, rest⟩ := h
  exact ⟨es, clock, since, seen, c0, hb'.trans hb, F, hs, hD, hr'.trans hr, rest⟩

def ClonePost (w : World) (TL : List Tie) (e : Ending) (w' : World) : Prop := ∃ v, e = .returned v ∧ w'.ownsRow w.heap.size 72 2 v TL.length (TL.flatMap tieCells) ∧ Below w.heap.size w w'
set_option maxHeartbeats 400000 in
theorem clone_any (tv : Value) (TL : List Tie) (w : World) (h : w.ownsRow 0 72 2 tv TL.length (TL.flatMap tieCells)) (hl : TL.length ≤ 1000) : Calls Try.prog 33 #[tv] w (ClonePost w TL) := by
  have hh := h
  rcases h.2 with ⟨rfl, h0⟩ | ⟨g, cap, cur, rfl, hb, hg, h1, h2, h3, h4⟩
  · have heq := fun W => Lib.run_eql_slice_nil (P := Try.prog) W 61 72 none 0 0 0 0 Try.underlying61
    have hTL : TL = [] := List.eq_nil_of_length_eq_zero h0
    subst hTL
    clear hh h h0
    go_enter Try.func33, Try.ntmps33
    go_wp2
    go_ret
    exact ⟨_, rfl, World.ownsRow_nil _ _ _ _, Below.refl _ _⟩
  · have heq := fun W => Lib.run_eql_slice_nil (P := Try.prog) W 61 72 (some ⟨g, 0, none⟩) TL.length cap 0 0 Try.underlying61
    obtain ⟨i0, hi, hz0, hz1, hz2⟩ := info_parts tie_info
    have hown : (w.alloc (.cells #[] 72)).ownsRow w.heap.size 72 2 (.slice (some ⟨w.heap.size, 0, none⟩) 0 0) 0 [] := World.ownsRow_made w #[] 0 (Nat.le_refl _) (Nat.zero_le _) rfl
    have hB : w.heap.size ≤ (w.alloc (.cells #[] 72)).heap.size := by simp
    have hcells : ∀ j u, (TL.flatMap tieCells)[j]? = some u → (w.alloc (.cells #[] 72)).cell? ((⟨g, 0, none⟩ : Addr).add j) = some u := fun j u hu =>
      (hh.alloc (.cells #[] 72)).cells (g := g) rfl j u hu
    have hlen : (TL.flatMap tieCells).length = TL.length * 2 := by simpa using hh.1
    have hone : ∀ u ∈ TL.flatMap tieCells, u.oneCell' = true := fun u hu => by
      obtain ⟨k, -, hk⟩ := List.mem_flatMap.1 hu
      simp only [tieCells, List.mem_cons, List.not_mem_nil, or_false] at hk
      rcases hk with rfl | rfl <;> rfl
    have HO := Lib.hid hown
    have HC := Lib.hid hcells
    have HLEN := Lib.hid hlen
    have HON := Lib.hid hone
    obtain ⟨n, hn⟩ : ∃ n, TL.length = n := ⟨_, rfl⟩
    have HN := Lib.hid hn
    rw [hn] at hl heq ⊢
    clear hh h hown hcells hlen hone hg h1 h2 h3 h4 hb hn
    go_enter Try.func33, Try.ntmps33
    go_wp2_with (at_builtin; go_must (refine wpList_append_own_at _ rfl (.tmp 5) (.tmp 6) 61 rfl w.heap.size 72 i0 _ 2 32 Try.underlying61 hi hz0 hz1 hz2 rfl (by omega) _ 0 [] rfl HO.out ⟨g, 0, none⟩ n cap (TL.flatMap tieCells) rfl (by rw [HLEN.out, HN.out]) HC.out HON.out (by simp only [maxLen]; omega) (by omega) hB ?_); intro v' w1 hown1 hg1 _ hat1; have H1 := Lib.hid hown1; have H2 := Lib.hid hg1; clear hown1 hg1 hat1)
    go_ret
    refine ⟨_, rfl, by have h5 := H1.out; simpa [HN.out] using h5, ((Below.refl _ _).alloc (Nat.le_refl _) _).grown H2.out (by simp) (fun k hk => by
      have e : w.heap.size = k := Option.some.inj hk
      omega)⟩

/-- An empty set. -/
theorem th_new {w w' : World} {e : Ending} (h : NewPost w e w') : Th w' (newTag w.heap.size) (w.heap.size + 2) [] 0 := by
  obtain ⟨-, hM, -⟩ := h
  refine ⟨[], w.heap.size, w.heap.size + 1, fun _ => none, fun _ => False, fun _ => 0, fun _ => [], id, id, fun _ => 0, fun _ => [], fun _ => [], ⟨⟨hM.less fun g hg _ => hg.elim, ?_⟩, ?_, ?_, ?_, ?_⟩, rfl⟩
  · exact ⟨⟨fun x h => h.elim, fun x h => h.elim, fun x h => h.elim, fun x h => h.elim, fun x h => h.elim, fun x h => h.elim, fun x h => h.elim, fun x h => h.elim⟩, fun x y h => h.elim, fun k g => ⟨fun h => (by cases h), fun h => h.1.elim⟩, fun k => List.nodup_nil⟩
  · exact ⟨fun g => ⟨fun h => h.elim, fun ⟨m, h⟩ => by cases h⟩, fun g k h => h.elim, fun m m' g h => (by cases h), fun m g g' h => (by cases h), List.Pairwise.nil⟩
  · exact fun i g => ⟨fun h => (by cases h), fun ⟨m, h, _⟩ => by cases h⟩
  · exact fun m g h => by cases h
  · exact fun m g h => by cases h
theorem nodup_le' {α : Type} [DecidableEq α] {l ll : List α} (h : l.Nodup) (hs : ∀ x, x ∈ l → x ∈ ll) : l.length ≤ ll.length := by
  induction l generalizing ll with
  | nil => simp
  | cons a r ih =>
    obtain ⟨h1, h2⟩ := List.nodup_cons.1 h
    have ha := hs a (by simp)
    have := ih (ll := ll.erase a) h2 fun x hx => (List.mem_erase_of_ne (fun e : x = a => h1 (by rw [← e]; exact hx))).2 (hs x (by simp [hx]))
    rw [List.length_erase_of_mem ha] at this
    have : 0 < ll.length := List.length_pos_of_mem ha
    simp; omega
theorem asc_le {L L' : List Msg} (h : Asc L) (hs : ∀ m, m ∈ L → m ∈ L') : L.length ≤ L'.length := by
  have hn : (L.map (·.id)).Nodup := by
    rw [List.nodup_iff_pairwise_ne, List.pairwise_map]
    exact h.imp fun hab e => by omega
  have := nodup_le' (ll := L'.map (·.id)) hn fun x hx => by
    obtain ⟨m, hm, rfl⟩ := List.mem_map.1 hx
    exact List.mem_map.2 ⟨m, hs m hm, rfl⟩
  simpa using this

/-- The state of the copying loop: the copy holds those messages that are no longer to come. -/
def Copied (w : World) (L : List Msg) (N c rb hdC : Nat) (D : DataW Value) (wr : World) : Prop :=
  ∃ left cnt tagC Lc, wr.ranges Try.prog 3 asIs N rb c D left cnt ∧ Th wr tagC hdC Lc (10 * Lc.length) ∧ (∀ m, m ∈ Lc ↔ m ∈ L ∧ left (.int .i64 m.id) = false) ∧ (∀ b, b < w.heap.size ∨ b = rb → tagC b = tOut) ∧ Below w.heap.size w wr ∧ w.heap.size ≤ rb ∧ rb < wr.heap.size
def CopyPost (w : World) (L : List Msg) (e : Ending) (w' : World) : Prop :=
  ∃ hdC tagC, e = .returned (.pointer (some ⟨hdC, 0, none⟩)) ∧ Th w' tagC hdC L (10 * L.length) ∧ (∀ b, b < w.heap.size → tagC b = tOut) ∧ Below w.heap.size w w'

/-- A message more in the copy. -/
theorem copied_more {L Lc : List Msg} (hL : Asc L) {left : Lit → Bool} (h : ∀ m, m ∈ Lc ↔ m ∈ L ∧ left (.int .i64 m.id) = false) {y : Msg} (hy : y ∈ L) (m : Msg) :
    m ∈ ins y Lc ↔ m ∈ L ∧ (left (.int .i64 m.id) && !(Lit.int .i64 m.id).sameKey (.int .i64 y.id)) = false := by
  rw [mem_ins, h]
  constructor
  · rintro (rfl | ⟨h1, h2⟩)
    · exact ⟨hy, by have : (Lit.int .i64 m.id).sameKey (.int .i64 m.id) = true := WideAt.sameKey_self trivial; simp [this]⟩
    · exact ⟨h1, by rw [h2]; rfl⟩
  · rintro ⟨h1, h2⟩
    by_cases e : left (.int .i64 m.id) = false
    · exact .inr ⟨h1, e⟩
    · have e1 : left (.int .i64 m.id) = true := by cases h : left (.int .i64 m.id) with | true => rfl | false => exact absurd h e
      rw [e1, Bool.true_and, Bool.not_eq_false'] at h2
      have e2 := WideAt.sameKey_eq h2
      injection e2 with _ e2
      exact .inl (hL.inj h1 hy e2)

set_option maxRecDepth 100000 in
set_option maxHeartbeats 4000000 in
theorem copy_any (w : World) {tag : Nat → Tag} {hd : Nat} {L : List Msg} {c : Nat} (h : Th w tag hd L c) (hL : L.length ≤ 100) :
    Calls Try.prog 22 #[.pointer (some ⟨hd, 0, none⟩)] w (CopyPost w L) := by
  obtain ⟨nd, N, T, nm, live, num, tm, up, root, dep, grp, tl, hp, hnd⟩ := h
  have hh := hp.whole.mem.hdr
  have hhl := heap_lt hh
  have kh : w.cell? ⟨hd, 0, none⟩ = some (.map (some N)) := by simp [World.cell?, hh]
  have HP := Lib.hid hp
  have HND := Lib.hid hnd
  have HL := Lib.hid hL
  clear hp hnd hh hL
  go_enter Try.func22, Try.ntmps22
  go_wp2_with fail
  refine (new_any w).mono ?_
  intro e w1 h1
  have hth := th_new h1
  obtain ⟨rfl, -, hO1⟩ := h1
  have hb1 : Below w.heap.size w w1 := ⟨hO1.os, hO1.tape, hO1.output, hO1.size, fun k hk => hO1.block k hk (fun h => h)⟩
  obtain ⟨D, hown, hat⟩ := HP.out.whole.mem.nodes.keep (hb1.block N HP.out.whole.mem.nodes.lt)
  have kh1 := (hb1.cell (p := ⟨hd, 0, none⟩) hhl).trans kh
  have hNl := HP.out.whole.mem.nodes.lt
  have hs1 : w.heap.size + 2 < w1.heap.size := by
    obtain ⟨_, _, _, _, _, _, _, _, _, _, _, _, hq, _⟩ := hth
    exact heap_lt hq.whole.mem.hdr
  have HTH := Lib.hid hth
  have HB1 := Lib.hid hb1
  have HO := Lib.hid hown
  have HAT := Lib.hid hat
  clear hth hO1 hb1 hown hat kh
  go_wp2_with (at_range; refine wpList_range_own _ rfl _ 49 rfl 3 59 intKeyed Try.underlying49 asIs N c D rfl HO.out ?_; intro w0 hrg0 hg0 hs0)
  go_frame
  have hC0 : Copied w L N c w1.heap.size (w.heap.size + 2) D w0 := by
    refine ⟨_, _, _, [], hrg0, HTH.out.off (F := fun _ => False) ⟨hg0.os, hg0.tape, hg0.output, hg0.size, fun k hk _ => hg0.block k hk (by simp)⟩ (fun _ h => h.elim), fun m => ⟨fun h => (by cases h), fun ⟨h1, h2⟩ => ?_⟩, fun b hb => ?_, ?_, by omega, by omega⟩
    · exfalso
      rw [← HND.out] at h1
      obtain ⟨g, hmg⟩ := mem_msgs.1 h1
      have hwf : (Lit.int .i64 m.id).wf = true := by have := HP.out.fine m g hmg; exact WalkArith.wf_i64 (by omega)
      have h1 := (HP.out.name m.id g).2 ⟨m, hmg, rfl⟩
      have h2' := HAT.out m.id hwf
      rw [h1] at h2'
      have := Maps.has_true_of_atKey h2'
      rw [this] at h2; cases h2
    · unfold newTag
      rw [if_neg (by omega), if_neg (by omega), if_neg (by omega)]
    · exact HB1.out.trans ⟨hg0.os, hg0.tape, hg0.output, hg0.size, fun k hk => hg0.block k (by have := HB1.out.size; omega) (by simp)⟩
  have HC0 := Lib.hid hC0
  clear hrg0 hg0 hs0 hC0
  go_loopw [] (fun wr => Hid (Copied w L N c w1.heap.size (w.heap.size + 2) D wr)) (fun wr => wr.rangeLeft N w1.heap.size)
  case atStart => exact HC0
  case round =>
    clear HC0
    obtain ⟨left, cnt, tagC, Lc, hrg, hthc, hmem, hout, hbel, hrb, hrb2⟩ := hrel.out
    have HRG := Lib.hid hrg
    have HTC := Lib.hid hthc
    have HME := Lib.hid hmem
    have HOUT := Lib.hid hout
    have HBEL := Lib.hid hbel
    clear hrel hrg hthc hmem hout hbel
    go_wp2_with (at_next; refine wpList_next_ranges _ rfl _ rfl 3 intKeyed asIs (Value.int .i64) id (fun key kl hkey => by obtain ⟨x, h1, _⟩ := Maps.keyOf_int_inv Try.underlying3 hkey; exact ⟨x, h1⟩) (fun v y _ => ⟨v, rfl⟩) N w1.heap.size c D left cnt rfl HRG.out ?_ ?_)
    · intro hc0 hl0
      have hall : Lc = L := asc_msgs HTC.out.asc (by rw [← HND.out]; exact HP.out.bears.asc) fun m => by rw [HME.out]; exact ⟨fun h => h.1, fun h => ⟨h, hl0 _⟩⟩
      have HALL := Lib.hid hall
      clear hc0 hl0 hall
      go_wp2
      go_ret
      refine ⟨_, tagC, rfl, ?_, fun b hb => HOUT.out b (.inl hb), HBEL.out⟩
      have := HTC.out
      rwa [HALL.out] at this
    · intro x cv kl a b w2 cnt1 hkey hlx hv hat1 hrg1 hlt1 hg1 hs1' hen
      have hkl : kl = .int .i64 x ∧ (Lit.int .i64 x).wf = true := by
        obtain ⟨x', e1, e2, e3⟩ := Maps.keyOf_int_inv Try.underlying3 hkey
        injection e1 with _ e1; subst e1; exact ⟨e2, e3⟩
      obtain ⟨rfl, hwx⟩ := hkl
      have hnode : ∃ g, nm x = some g ∧ cv = .pointer (some ⟨g, 0, none⟩) := by
        have ha : a = .held cv := by unfold asIs at hv; simp only [Option.some.injEq, Prod.mk.injEq] at hv; exact hv.1.symm
        subst ha
        cases hnx : nm x with
        | none =>
          have h1 := HAT.out x hwx .nil
          rw [hnx, hat1] at h1
          cases h1
        | some g =>
          have h1 := HAT.out x hwx .nil
          rw [hnx, hat1] at h1
          exact ⟨g, rfl, DataW.held.inj h1⟩
      obtain ⟨g, hnx, rfl⟩ := hnode
      obtain ⟨y, hyg, hyx⟩ := (HP.out.name x g).1 hnx
      have hgl : live g := (HP.out.bears.lv g).2 ⟨y, hyg⟩
      have hbel2 : Below w.heap.size w w2 := HBEL.out.grown hg1 HBEL.out.size (fun k e => by have : w1.heap.size = k := Option.some.inj e; omega)
      have hM1 : Mem w2 tag hd N T nm live (fun g => up g = g) num tm up grp tl c := HP.out.whole.mem.off (.of_below hbel2 (F := fun b => w.heap.size ≤ b) fun _ _ h => h) HP.out.whole.mem.fresh
      obtain ⟨tv, gv, -, c1, -, -, -, htr, -⟩ := hM1.cells hgl
      have hglt := (hM1.node_tag hgl).2
      have hfine := HP.out.fine y g hyg
      have hthc2 := HTC.out.off (w' := w2) (F := fun b => b = w1.heap.size) ⟨hg1.os, hg1.tape, hg1.output, hg1.size, fun k hk hn => hg1.block k hk (fun e => hn (Option.some.inj e))⟩ (fun b e => HOUT.out b (.inr e))
      obtain ⟨ndC, NC, TC, nmC, liveC, numC, tmC, upC, rootC, depC, grpC, tlC, hpC, hndC⟩ := hthc2
      have hhC := hpC.whole.mem.hdr
      have hhCl := heap_lt hhC
      have hNCl := hpC.whole.mem.nodes.lt
      have hlen : Lc.length ≤ L.length := asc_le HTC.out.asc fun m hm => ((HME.out m).1 hm).1
      have hyL : y ∈ L := by rw [← HND.out]; exact mem_msgs.2 ⟨g, hyg⟩
      have hLA : Asc L := by rw [← HND.out]; exact HP.out.bears.asc
      have hnoC : nmC x = none := by
        cases hq : nmC x with
        | none => rfl
        | some q =>
          obtain ⟨m, hm1, hm2⟩ := (hpC.name x q).1 hq
          have hm3 : m ∈ Lc := by rw [← hndC]; exact mem_msgs.2 ⟨q, hm1⟩
          obtain ⟨hm4, hm5⟩ := (HME.out m).1 hm3
          rw [hm2, hlx] at hm5; cases hm5
      have HYG := Lib.hid hyg
      have HYX := Lib.hid hyx
      have HGL := Lib.hid hgl
      have HB2 := Lib.hid hbel2
      have HTR := Lib.hid htr
      have HFI := Lib.hid hfine
      have HPC := Lib.hid hpC
      have HNDC := Lib.hid hndC
      have HHC := Lib.hid hhC
      have HRG2 := Lib.hid hrg1
      have HLT1 := Lib.hid hlt1
      have HLX := Lib.hid hlx
      have HLEN := Lib.hid hlen
      have HYL := Lib.hid hyL
      have HLA := Lib.hid hLA
      have HNOC := Lib.hid hnoC
      have HWX := Lib.hid hwx
      have HS1 := Lib.hid hs1'
      clear hkey hlx hv hat1 hrg1 hlt1 hg1 hs1' hwx hnx hyg hyx hgl hbel2 hM1 htr hfine hpC hndC hhC hlen hyL hLA hnoC
      go_wp2_with fail
      refine (clone_any tv (tm g) w2 HTR.out.1 (by have := HFI.out.2.2.2.1; omega)).mono ?_
      rintro e w3 ⟨tv', rfl, hto, hb3⟩
      obtain ⟨CA, cn, cc, rfl⟩ : ∃ a l c, tv' = .slice a l c := by
        rcases hto.2 with ⟨rfl, _⟩ | ⟨g', cap, cur, rfl, _⟩
        · exact ⟨_, _, _, rfl⟩
        · exact ⟨_, _, _, rfl⟩
      have hs3 := hb3.size
      have hrb3 : w1.heap.size < w2.heap.size := by rw [HS1.out]; exact hrb2
      have kC : w3.cell? ⟨w.heap.size + 2, 0, none⟩ = some (.map (some NC)) := by
        have := hb3.block (w.heap.size + 2) hhCl
        simp [World.cell?, this, HHC.out]
      have hk := MapKept.heap_alloc w3 (.cells #[.int .i64 x, (.slice CA cn cc), .pointer none, .slice none 0 0] 64)
      have hN : NodesMap (w3.alloc (.cells #[.int .i64 x, (.slice CA cn cc), .pointer none, .slice none 0 0] 64)) NC nmC (10 * Lc.length) := HPC.out.whole.mem.nodes.keep ((hk.2 NC (by omega)).trans (hb3.block NC hNCl))
      obtain ⟨w4, hrun4, hput, hgr4⟩ := hN.put (by have := HLEN.out; have := HL.out; simp only [maxLen]; omega) HWX.out w3.heap.size
      unfold ptr at hrun4
      have hb4 : w4.heap[w3.heap.size]? = some (.cells #[.int .i64 x, (.slice CA cn cc), .pointer none, .slice none 0 0] 64 (0, 0)) := (hgr4.block _ (by simp) (fun e => by have := Option.some.inj e; omega)).trans hk.1
      have htoX : (w3.alloc (.cells #[.int .i64 x, (.slice CA cn cc), .pointer none, .slice none 0 0] 64)).ownsRow 0 72 2 (.slice CA cn cc) (tm g).length ((tm g).flatMap tieCells) := by
        have h5 := hto.alloc (.cells #[.int .i64 x, (.slice CA cn cc), .pointer none, .slice none 0 0] 64)
        refine ⟨h5.1, ?_⟩
        rcases h5.2 with h6 | ⟨g', cap, cur, e, hb, r⟩
        · exact .inl h6
        · exact .inr ⟨g', cap, cur, e, Nat.zero_le _, r⟩
      have htb : ∀ b, (Value.slice CA cn cc).ownBlock = some b → w2.heap.size ≤ b ∧ b ≠ w3.heap.size := fun b e => by have := hto.lt b e; exact ⟨this.1, by omega⟩
      have hbX : Below w2.heap.size w2 (w3.alloc (.cells #[.int .i64 x, (.slice CA cn cc), .pointer none, .slice none 0 0] 64)) := hb3.alloc hs3 _
      have hdlt : w.heap.size + 2 < w3.heap.size := by omega
      have HTOX := Lib.hid htoX
      have HTB := Lib.hid htb
      have HBX := Lib.hid hbX
      have HPUT := Lib.hid hput
      have HGR := Lib.hid hgr4
      have HB4 := Lib.hid hb4
      clear hto hb3 hk hN hput hgr4 hb4 htoX htb hbX c1
      go_wp2_with fail
      refine (alone_any _ w3.heap.size _ _ _ _ w4 HB4.out).mono ?_
      intro e w5 h5
      have he : e = .returned (.tuple #[]) := h5.1
      subst he
      obtain ⟨tag5, hW5, hO5, hG5, hnn⟩ := add_whole HPC.out hs3 HTOX.out HTB.out HBX.out (by simp) HPUT.out HGR.out h5
      have hmt : ∀ k, k ∈ tm g ↔ (k.1 = y.base ∧ k.2 ∈ y.ids) := fun k => by
        rw [HP.out.bears.ef g k HGL.out]
        constructor
        · rintro ⟨m', h1, h2, h3⟩
          have := HP.out.bears.one _ _ _ HYG.out h1
          subst this; exact ⟨h2, h3⟩
        · rintro ⟨h2, h3⟩; exact ⟨y, HYG.out, h2, h3⟩
      obtain ⟨n, hn⟩ : ∃ n, w3.heap.size = n := ⟨_, rfl⟩
      have hn2 : w2.heap.size ≤ n := by omega
      rw [hn] at hW5 hnn ⊢
      have HW5 := Lib.hid hW5
      have HO5 := Lib.hid hO5
      have HG5 := Lib.hid hG5
      have HNN := Lib.hid hnn
      have HMT := Lib.hid hmt
      have HN3 := Lib.hid hn
      have e5 : upd tmC n (tm g) n = tm g := upd_same _ _ _
      clear h5 hW5 hO5 hG5 hnn hmt hrun4 kC hn
      go_wp2_with fail
      refine (tied_any n w5 HW5.out (.inr rfl) (by rw [e5]; exact HFI.out.2.2.2.2) (fun k _ h => HNN.out h.1) (by rw [e5]; exact HFI.out.2.2.1) ?_ (by rw [e5]; have := HFI.out.2.2.2.1; have := HLEN.out; have := HL.out; omega)).mono ?_
      · refine ⟨n :: ndC.map (·.2), fun g' hg' => ?_, ?_⟩
        · rcases hg' with hg' | rfl
          · obtain ⟨z, hz⟩ := (HPC.out.bears.lv g').1 hg'
            exact List.mem_cons_of_mem _ (List.mem_map.2 ⟨_, hz, rfl⟩)
          · exact List.mem_cons_self
        · have h1 : ndC.length ≤ 100 := by have := HL.out; have := HLEN.out; rw [← HNDC.out] at this; simp [msgs] at this; omega
          simp; omega
      · rintro e w6 ⟨rfl, tag6, up6, root6, dep6, grp6, tl6, hW6, hO6, hG6⟩
        rw [e5] at hW6
        have hO26 := HO5.out.grows hO6 HG5.out
        have hG26 := HG5.out.trans hG6 HO5.out.size
        have HW6 := Lib.hid hW6
        have HO26 := Lib.hid hO26
        have HG26 := Lib.hid hG26
        clear hW6 hO6 hG6 hO26 hG26 e5
        have hkeep : ∀ b, b < w.heap.size ∨ b = w1.heap.size → w6.heap[b]? = w2.heap[b]? := fun b hb => HO26.out.block b (by have := HB2.out.size; omega) (fun h => h.1 (HOUT.out b hb))
        have hrg6 := ranges_blocks HRG2.out (hkeep N (.inl hNl)) (hkeep w1.heap.size (.inr rfl))
        have HRG6 := Lib.hid hrg6
        have HKEEP := Lib.hid hkeep
        clear hrg6 hkeep
        go_wp2
        go_roundw
        case rel =>
          have hth6 := add_th (m := y) HPC.out HNN.out (by rw [HYX.out]; exact HW6.out) HMT.out HFI.out.2.2.1 HFI.out.2.2.2.1 HFI.out.2.2.2.2 ⟨HFI.out.1, HFI.out.2.1⟩ (by rw [HYX.out]; exact HNOC.out)
          rw [HNDC.out] at hth6
          refine ⟨_, _, tag6, ins y Lc, HRG6.out, hth6.mono ?_, fun m => ?_, fun b hb => ?_, ?_, hrb, ?_⟩
          · have := HFI.out.2.2.2.1
            rw [ins_len]; omega
          · have := copied_more HLA.out HME.out HYL.out m
            rw [HYX.out] at this; exact this
          · exact (HG26.out b (by have := HB2.out.size; omega)).1 (HOUT.out b hb)
          · exact ⟨HO26.out.os.trans HB2.out.os, HO26.out.tape.trans HB2.out.tape, HO26.out.output.trans HB2.out.output, Nat.le_trans HB2.out.size HO26.out.size, fun k hk => (HKEEP.out k (.inl hk)).trans (HB2.out.block k hk)⟩
          · have := HO26.out.size; omega
        case measure => rw [HRG6.out.left_eq, HRG.out.left_eq]; exact HLT1.out
end Go.Proofs.Ytlobiebmaheflaa
