/- Layer 32: the contract of List. Layer 37: the contracts of text and plain; strings.Join of words by blanks. Layer 37: Words at queries that have at most one word. Layer 37: worded and leaf at the queries that the laws' small() writes. Layer 37: leaf at the queries that the laws' small() writes (printed by gen_qleaf.py). -/
import Derived.Deep.RegionHeld3
import Derived.Lib.QuietBelow
import Derived.Test.YtomcdhmcjndioaaGreatDoorV08
import Derived.Test.YtomcdhmcjndioaaGreatDoorV07
import Derived.Test.YtomcdhmcjndioaaGreatDoorV06
section
namespace Go.Proofs.YtomcdhmcjndioaaGreatDoor
open Go.RowKit
set_option linter.unusedVariables false

/-- Words in memory: those of the text l at the ranges ws. -/
def Wrds (w : World) (B : Nat) (A : Option Addr) (n : Nat) (l : List UInt8) (ws : List (Nat × Nat)) : Prop :=
  n = ws.length ∧ ∀ k (hk : k < ws.length), ∃ ad, A = some ad ∧ (ad.add (k * 3)).block < B ∧ w.cell? (ad.add (k * 3)) = some (.string (ba (wordAt l ws[k]))) ∧ w.cell? ⟨(ad.add (k * 3)).block, (ad.add (k * 3)).off + 1, none⟩ = some (.int .i64 ws[k].1) ∧ w.cell? ⟨(ad.add (k * 3)).block, (ad.add (k * 3)).off + 2, none⟩ = some (.int .i64 ws[k].2)
theorem Wrds.below {w w' : World} {B n : Nat} {A : Option Addr} {l : List UInt8} {ws : List (Nat × Nat)} (h : Wrds w B A n l ws) (hb : Below B w w') : Wrds w' B A n l ws :=
  ⟨h.1, fun k hk => by
    obtain ⟨ad, e, h1, h2, h3, h4⟩ := h.2 k hk
    exact ⟨ad, e, h1, (hb.cell h1).trans h2, (hb.cell (p := ⟨(ad.add (k * 3)).block, _, none⟩) h1).trans h3, (hb.cell (p := ⟨(ad.add (k * 3)).block, _, none⟩) h1).trans h4⟩⟩
theorem Wrds.more {w : World} {B B' n : Nat} {A : Option Addr} {l : List UInt8} {ws : List (Nat × Nat)} (h : Wrds w B A n l ws) (hB : B ≤ B') : Wrds w B' A n l ws :=
  ⟨h.1, fun k hk => by
    obtain ⟨ad, e, h1, h2, h3, h4⟩ := h.2 k hk
    exact ⟨ad, e, by omega, h2, h3, h4⟩⟩
theorem OwnWords.wrds {w : World} {B : Nat} {v : Value} {l : List UInt8} {ws : List (Nat × Nat)} (h : OwnWords w B v l ws) : ∃ A c, v = .slice A ws.length c ∧ ws.length ≤ c ∧ c ≤ maxLen ∧ Wrds w w.heap.size A ws.length l ws := by
  have h0 : w.ownsRow B 69 3 v ws.length (ws.flatMap (wordCells l)) := h
  rcases h0.2 with ⟨rfl, hn⟩ | ⟨g, cap, cur, rfl, hb, hg, q1, q2, q3⟩
  · have : ws = [] := List.eq_nil_of_length_eq_zero hn
    subst this
    exact ⟨none, 0, rfl, Nat.le_refl _, by simp, rfl, fun k hk => by simp at hk⟩
  · refine ⟨_, cap, rfl, q1, q2, rfl, fun k hk => ?_⟩
    have hc : ∀ i u, i < 3 → (wordCells l ws[k])[i]? = some u → w.cell? ⟨g, k * 3 + i, none⟩ = some u := fun i u hi hu => by
      have := h0.cells (g := g) rfl (k * 3 + i) u (by rw [word_get l ws k hk i hi]; exact hu)
      unfold Addr.add at this
      by_cases e0 : k * 3 + i = 0
      · rw [if_pos e0] at this; rw [e0]; exact this
      · rw [if_neg e0] at this; rw [Nat.zero_add] at this; exact this
    have e1 : (Addr.add ⟨g, 0, none⟩ (k * 3)) = ⟨g, k * 3, none⟩ := by
      unfold Addr.add
      split
      · rename_i e0; rw [e0]
      · rw [Nat.zero_add]
    refine ⟨⟨g, 0, none⟩, rfl, by rw [add_block]; exact heap_lt hg, ?_, ?_, ?_⟩
    · rw [e1]; exact hc 0 _ (by omega) rfl
    · rw [e1]; exact hc 1 _ (by omega) rfl
    · rw [e1]; exact hc 2 _ (by omega) rfl
def StrsBack (w : World) (ss : List (List UInt8)) (e : Ending) (w' : World) : Prop := ∃ v, e = .returned v ∧ OwnStrs w' w.heap.size v ss ∧ Below w.heap.size w w'
theorem wEnd_le {f : Int} {t : Nat} {ws : List (Nat × Nat)} : (wEnd f t ws).length ≤ ws.length + 1 := wEnd_len f t ws
theorem wRun_len : ∀ (k : Nat) (l : List UInt8) (a : Nat) (f : Int) (ws : List (Nat × Nat)), (wRun k l a f ws).length ≤ ws.length + 2 * k + 1
  | 0, l, a, f, ws => wEnd_len f a ws
  | k + 1, l, a, f, ws => by
    unfold wRun
    split
    · have := wEnd_len f a ws; omega
    · have h1 := wRun_len k (l.drop (uN l).2) (a + (uN l).2) (wStep l a f ws).1 (wStep l a f ws).2
      have h2 : (wStep l a f ws).2.length ≤ ws.length + 2 := by
        have := wEnd_len f a ws
        unfold wStep
        repeat' split
        all_goals (simp; try omega)
      omega
theorem ranges_len (s : List UInt8) : (rangesP s).length ≤ 2 * s.length + 1 := by
  have := wRun_len s.length s 0 (-1) []
  unfold rangesP
  simpa using this
def ListRel (w : World) (l : List UInt8) (k : Nat) (v : Value) (wr : World) : Prop := OwnStrs wr w.heap.size v ((listP l).take k) ∧ Below w.heap.size w wr
set_option maxRecDepth 100000 in
set_option maxHeartbeats 4000000 in
theorem list_any (l : List UInt8) (w : World) (hf : fSpans w w.heap.size) (hk : kSpans w w.heap.size) (hl : l.length ≤ 100000000) : Calls Tryz.prog 20 #[.string (ba l)] w (StrsBack w (listP l)) := by
  go_enter Tryz.func20, Tryz.ntmps20
  go_wp2_with fail
  refine (words_any l w hf hk hl).mono ?_
  rintro e w1 ⟨v, rfl, hv, hb⟩
  obtain ⟨A, c, rfl, hc1, hc2, hW⟩ := hv.wrds
  have HW := Lib.hid hW
  have HB := Lib.hid hb
  have hrl := ranges_len l
  have hll : (listP l).length = (rangesP l).length := by unfold listP; rw [List.length_map]
  obtain ⟨n, hn⟩ : ∃ n, (rangesP l).length = n := ⟨_, rfl⟩
  have hsz1 : w.heap.size ≤ w1.heap.size := hb.size
  rw [hn] at hW HW hrl hc1 hll
  have HN := Lib.hid hn
  have HLL := Lib.hid hll
  have hn9 : n ≤ 200000001 := by omega
  rw [hn]
  clear hW hb hv hn hll hf hk hrl
  go_wp2
  go_loopw [3, 9] (fun v i wr => ∃ k : Nat, k ≤ n ∧ i = .int .i64 (k : Int) ∧ Hid (ListRel w1 l k v wr)) (fun _ i _ => n - (intOf i).toNat)
  case atStart => exact ⟨0, Nat.zero_le _, rfl, OwnStrs.nil_ _ _, Below.refl _ _⟩
  case round =>
    obtain ⟨k, hk, rfl, HR⟩ := hrel
    have hsz := HR.out.2.size
    by_cases hlt : k < n
    · have hk2 : (k : Int) < n := by omega
      have hkl : k < (rangesP l).length := by rw [HN.out]; exact hlt
      obtain ⟨ad, rfl, hbl, c0, c1, c2⟩ := (HW.out.below HR.out.2).2 k hkl
      obtain ⟨r, hr⟩ : ∃ r, (rangesP l)[k] = r := ⟨_, rfl⟩
      rw [hr] at c0 c1 c2
      have HP := Lib.hid (show (listP l).take (k + 1) = (listP l).take k ++ [wordAt l r] by
        rw [List.take_succ_eq_append_getElem (by rw [HLL.out]; exact hlt)]
        unfold listP
        rw [List.getElem_map, hr])
      clear hr
      obtain ⟨t, ht⟩ : ∃ t, wordAt l r = t := ⟨_, rfl⟩
      rw [ht] at c0 HP
      clear ht
      have hown := World.ownsRow.alloc HR.out.1 (.cells #[.string (ba t), .int .i64 r.1, .int .i64 r.2] 69)
      have HOWN : Hid (OwnStrs (wr.alloc (.cells #[.string (ba t), .int .i64 r.1, .int .i64 r.2] 69)) w1.heap.size _ ((listP l).take k)) := Lib.hid hown
      have hB : w1.heap.size ≤ (wr.alloc (.cells #[.string (ba t), .int .i64 r.1, .int .i64 r.2] 69)).heap.size := by simp; omega
      have HAL := Lib.hid (show ((listP l).take k).length < 1099511627776 by rw [List.length_take]; omega)
      have HBEL := Lib.hid (HR.out.2.alloc hsz (.cells #[.string (ba t), .int .i64 r.1, .int .i64 r.2] 69))
      clear hown
      go_wp2_with (at_builtin; go_must (refine wpList_pushStr (s := t) HOWN.out hB HAL.out rfl (.tmp 13) (.tmp 16) 32 1 rfl Tryz.underlying32 rfl (by show Value.slice (some ⟨wr.heap.size + 1, 0, none⟩) 1 1 = _; simp) ?_); intro v2 w2 h1 h2 h3; (have H1 := Lib.hid h1; have H2 := Lib.hid h2; clear h1 h2 h3))
      go_roundw
      case rel =>
        refine ⟨k + 1, by omega, by go_num, ?_, HBEL.out.grown H2.out hB fun g e => (HOWN.out.lt g e).1⟩
        rw [HP.out]
        exact H1.out
      case measure => simp [intOf] <;> omega
    · obtain rfl : k = n := by omega
      go_wp2
      go_ret
      refine ⟨_, rfl, ?_, HB.out.trans (HR.out.2.mono hsz1)⟩
      have := HR.out.1
      rw [List.take_of_length_le (by rw [HLL.out]; exact Nat.le_refl _)] at this
      exact this.more hsz1
end Go.Proofs.YtomcdhmcjndioaaGreatDoor
end
section
namespace Go.Proofs.YtomcdhmcjndioaaGreatDoor
open Go.RowKit
set_option linter.unusedVariables false

theorem join_sp : ∀ ss : List (List UInt8), Lib.join ss [32] = joinSp ss
  | [] => rfl
  | [w] => Lib.join_one w [32]
  | w :: v :: r => by
    have ih := join_sp (v :: r)
    rw [Lib.join_cons] at ih ⊢
    unfold joinSp
    rw [← ih]
    simp [Lib.joinTail]
theorem joinSp_len (M : Nat) : ∀ ss : List (List UInt8), (∀ x ∈ ss, x.length ≤ M) → (joinSp ss).length ≤ ss.length * (M + 1)
  | [], _ => by simp [joinSp]
  | [w], h => by
    have := h w (by simp)
    simp [joinSp]
    omega
  | w :: v :: r, h => by
    have h1 := h w (by simp)
    have ih := joinSp_len M (v :: r) (fun x hx => h x (List.mem_cons_of_mem _ hx))
    unfold joinSp
    rw [List.length_append, List.length_cons]
    have e : (w :: v :: r).length * (M + 1) = (v :: r).length * (M + 1) + (M + 1) := by rw [List.length_cons, Nat.add_mul, Nat.one_mul]
    omega
theorem list_each (l : List UInt8) : ∀ x ∈ listP l, x.length ≤ l.length := fun x hx => by
  unfold listP at hx
  obtain ⟨r, _, rfl⟩ := List.mem_map.1 hx
  unfold wordAt
  rw [foldP_len _ _ (Nat.le_refl _), List.length_drop, List.length_take]
  omega
theorem list_count (l : List UInt8) : (listP l).length ≤ 2 * l.length + 1 := by
  unfold listP
  rw [List.length_map]
  exact ranges_len l
theorem listJoin_len (l : List UInt8) (h : l.length ≤ 1000000) : (joinSp (listP l)).length ≤ 140737488355328 := by
  have h1 := joinSp_len l.length (listP l) (list_each l)
  have h2 := list_count l
  have h3 : (listP l).length * (l.length + 1) ≤ (2 * l.length + 1) * (l.length + 1) := Nat.mul_le_mul_right _ h2
  have h4 : (2 * l.length + 1) * (l.length + 1) ≤ (2 * 1000000 + 1) * (1000000 + 1) := Nat.mul_le_mul (by omega) (by omega)
  omega
theorem qjoin_any (ss : List (List UInt8)) (v : Value) (B : Nat) (w : World) (hs : OwnStrs w B v ss) (hn : ss.length ≤ 140737488355328) (hl : (joinSp ss).length ≤ 140737488355328) :
    Calls Tryz.prog 40 #[v, .string ⟨#[32]⟩] w (StrB w (joinSp ss)) := by
  rcases hs.2 with ⟨rfl, h0⟩ | ⟨g, cap, cur, rfl, hb, hg, h1, h2, h3, h4⟩
  · have : ss = [] := List.eq_nil_of_length_eq_zero h0
    subst this
    refine (Tryz.strings_Join_none none 0 ⟨#[32]⟩ w).mono ?_
    rintro e w' ⟨rfl, rfl⟩
    exact ⟨rfl, Below.refl _ _⟩
  · have hj : Lib.join ((ss.map ba).map (·.data.toList)) (⟨#[32]⟩ : ByteArray).data.toList = joinSp ss := by
      rw [List.map_map, show ((fun x : ByteArray => x.data.toList) ∘ ba) = id from funext fun y => ba_list y, List.map_id]
      exact join_sp ss
    have hlen : (ss.map ba).length = ss.length := List.length_map _
    have := Tryz.strings_Join g 0 cap (ss.map ba) ⟨#[32]⟩ w (fun j x hx => by
      rw [List.getElem?_map] at hx
      obtain ⟨y, hy, rfl⟩ := Option.map_eq_some_iff.1 hx
      have hc := World.ownsRow.cells hs (g := g) rfl j (.string (ba y)) (by unfold sv; rw [List.getElem?_map, hy]; rfl)
      have e : (⟨g, 0, none⟩ : Addr).add j = ⟨g, 0 + j, none⟩ := by
        unfold Addr.add
        split
        · rename_i h; subst h; rfl
        · rfl
      rw [← e]; exact hc) (heap_lt hg) (by rw [hlen]; exact hn) (by rw [hlen]; exact h1) (by rw [hj]; exact hl)
    rw [hj, hlen] at this
    exact this
/-- What a leaf gives: a query without children, and whether it is one. -/
def LfPost (w : World) (o : Option Qry) (e : Ending) (w' : World) : Prop :=
  ∃ (op fld : Int) (t : List UInt8) (n : Int), e = .returned (.tuple #[.agg #[.int .i64 op, .int .i64 fld, .string (ba t), .int .i64 n, .slice none 0 0], .bool o.isSome]) ∧ Below w.heap.size w w' ∧ (∀ q, o = some q → q = .mk op fld t n []) ∧ RawOk ⟨op, fld, t, n, (none, 0, 0)⟩
theorem leaf_ok {op fld n : Int} {t : List UInt8} (h1 : -1000 ≤ op ∧ op ≤ 1000) (h2 : -1000 ≤ fld ∧ fld ≤ 1000) (h3 : -9223372036854775808 ≤ n ∧ n ≤ 9223372036854775807) : RawOk ⟨op, fld, t, n, (none, 0, 0)⟩ :=
  ⟨⟨by dsimp only; omega, by dsimp only; omega⟩, ⟨by dsimp only; omega, by dsimp only; omega⟩, h3⟩
theorem lf_end {w w' : World} {o : Option Qry} {op fld n : Int} {t : List UInt8} {s : ByteArray} {b : Bool} (ho : ∀ q, o = some q → q = .mk op fld t n []) (hb : b = o.isSome) (hs : s = ba t) (hw : Below w.heap.size w w') (hk : RawOk ⟨op, fld, t, n, (none, 0, 0)⟩) :
    LfPost w o (.returned (.tuple #[.agg #[.int .i64 op, .int .i64 fld, .string s, .int .i64 n, .slice none 0 0], .bool b])) w' := by
  subst hb hs
  exact ⟨op, fld, t, n, rfl, hw, ho, hk⟩
theorem lf_none {w w' : World} {o : Option Qry} {op fld n : Int} {t : List UInt8} {s : ByteArray} (ho : o = none) (hs : s = ba t) (hw : Below w.heap.size w w') (hk : RawOk ⟨op, fld, t, n, (none, 0, 0)⟩) :
    LfPost w o (.returned (.tuple #[.agg #[.int .i64 op, .int .i64 fld, .string s, .int .i64 n, .slice none 0 0], .bool false])) w' := by
  subst ho
  exact lf_end (fun q h => by cases h) rfl hs hw hk
theorem lf_some {w w' : World} {o : Option Qry} {q : Qry} {op fld n : Int} {t : List UInt8} {s : ByteArray} (ho : o = some q) (hq : q = .mk op fld t n []) (hs : s = ba t) (hw : Below w.heap.size w w') (hk : RawOk ⟨op, fld, t, n, (none, 0, 0)⟩) :
    LfPost w o (.returned (.tuple #[.agg #[.int .i64 op, .int .i64 fld, .string s, .int .i64 n, .slice none 0 0], .bool true])) w' := by
  subst ho
  exact lf_end (fun q' h => by injection h with h; rw [← h, hq]) rfl hs hw hk
/-- Block g holds a query that is empty as yet. -/
def QzAt (w : World) (g : Nat) : Prop := w.heap[g]? = some (.cells #[.int .i64 0, .int .i64 0, .string ⟨#[]⟩, .int .i64 0, .slice none 0 0] 25 (0, 0))
theorem QzAt.below {w w' : World} {g B : Nat} (h : QzAt w g) (hb : Below B w w') (hg : g < B) : QzAt w' g := (hb.block g hg).trans h
theorem QzAt.cells {w : World} {g : Nat} (h : QzAt w g) : w.cell? ⟨g, 0, none⟩ = some (.int .i64 0) ∧ w.cell? ⟨g, 1, none⟩ = some (.int .i64 0) ∧ w.cell? ⟨g, 2, none⟩ = some (.string ⟨#[]⟩) ∧ w.cell? ⟨g, 3, none⟩ = some (.int .i64 0) ∧ w.cell? ⟨g, 4, none⟩ = some (.slice none 0 0) ∧ ∀ i, w.frozen? ⟨g, i, none⟩ = false := by
  unfold QzAt at h
  refine ⟨?_, ?_, ?_, ?_, ?_, fun i => Lib.frozen_of_heap h i⟩ <;> (rw [Lib.cell_of_heap h]; rfl)
theorem qzAt_new (w : World) : QzAt (w.alloc (.cells #[.int .i64 0, .int .i64 0, .string ⟨#[]⟩, .int .i64 0, .slice none 0 0] 25)) w.heap.size := (MapKept.heap_alloc w _).1
theorem qz_below (w : World) : Below w.heap.size w (w.alloc (.cells #[.int .i64 0, .int .i64 0, .string ⟨#[]⟩, .int .i64 0, .slice none 0 0] 25)) := (Below.refl _ _).alloc (Nat.le_refl _) _
theorem textQ_one {l w : List UInt8} {f : Nat} (h : listP l = [w]) : textQ l f = some (.mk 2 f w 0 []) := by unfold textQ; rw [h]
theorem textQ_none {l : List UInt8} {f : Nat} (h : listP l = []) : textQ l f = none := by unfold textQ; rw [h]
theorem textQ_more {l : List UInt8} {f : Nat} (h : 2 ≤ (listP l).length) : textQ l f = some (.mk 3 f (joinSp (listP l)) 0 []) := by
  unfold textQ
  split
  · rename_i e; rw [e] at h; simp at h
  · rename_i w e; rw [e] at h; simp at h
  · rfl
set_option maxRecDepth 100000 in
set_option maxHeartbeats 4000000 in
theorem qtext_any (l : List UInt8) (f : Nat) (w : World) (hl : l.length ≤ 1000000) (hf : f ≤ 100) (hT : QTabs w) :
    Calls Tryz.prog 95 #[.string (ba l), .int .i64 (f : Int)] w (LfPost w (textQ l f)) := by
  have HT := Lib.hid hT
  have HJL := Lib.hid (listJoin_len l hl)
  have HLC := Lib.hid (show (listP l).length ≤ 140737488355328 by have := list_count l; omega)
  have HTX := Lib.hid (And.intro (@textQ_one l · f) (And.intro (@textQ_none l f) (@textQ_more l f)))
  obtain ⟨fi, hfi⟩ : ∃ x : Int, (f : Int) = x := ⟨_, rfl⟩
  have f0 : 0 ≤ fi := by omega
  have f1 : fi ≤ 100 := by omega
  have HFI := Lib.hid hfi
  rw [hfi]
  clear hfi hT
  go_enter Tryz.func95, Tryz.ntmps95
  go_wp2_with fail
  refine (list_any l _ (HT.out.below (qz_below w)).fs (HT.out.below (qz_below w)).ks (by omega)).mono ?_
  rintro e w1 ⟨v, rfl, hv, hb⟩
  have HB1 := Lib.hid ((qz_below w).trans (hb.mono (by simp)))
  have HZ1 := Lib.hid ((qzAt_new w).below hb (by simp))
  have z1 : w.heap.size < w1.heap.size := by have := hb.size; simp at this; omega
  obtain ⟨A, c, hvv, hc1, hc2, hst⟩ := hv.strs
  have HV := Lib.hid hv
  have HJ := Lib.hid (fun W (hW : Below w1.heap.size w1 W) => qjoin_any (listP l) v _ W (HV.out.below hW) HLC.out HJL.out)
  obtain ⟨J, hJ⟩ : ∃ J, joinSp (listP l) = J := ⟨_, rfl⟩
  have HJE := Lib.hid hJ
  simp only [hJ] at HTX
  simp only [hJ] at HJ
  obtain ⟨N, hN⟩ : ∃ N, (listP l).length = N := ⟨_, rfl⟩
  have HN := Lib.hid hN
  simp only [hN] at hvv HTX hc1 HLC
  subst hvv
  clear hb hv hJ hN hst HJL
  unfold StrB at HJ
  go_wp2_with fail
  refine (HJ.out w1 (Below.refl _ _)).mono ?_
  rintro e w2 ⟨rfl, hb2⟩
  have HB2 := Lib.hid (HB1.out.trans (hb2.mono HB1.out.size))
  have HZ2 := Lib.hid (HZ1.out.below hb2 z1)
  have z2 : w.heap.size < w2.heap.size := by have := hb2.size; omega
  clear hb2
  obtain ⟨r0, r1, r2, r3, r4, rf⟩ := HZ2.out.cells
  have hlc := HLC.out
  by_cases h0 : N = 0
  · have HO := Lib.hid (HTX.out.2.1 (List.eq_nil_of_length_eq_zero (HN.out.trans h0)))
    subst h0
    go_wp2
    refine bodyPost_ret (v := .tuple #[.agg #[.int .i64 3, .int .i64 fi, .string (ba J), .int .i64 0, .slice none 0 0], .bool false]) (by simp [results, Tryz.results95, go_sem, r0, r1, r2, r3, r4, z2]) rfl ?_
    refine lf_none HO.out rfl ?_ (leaf_ok (by omega) (by omega) (by omega))
    refine Below.alloc ?_ (by simp; omega) _
    repeat (first | (with_reducible exact HB2.out) | refine Below.setCell ?_ (by simp) _)
  · by_cases h1 : N = 1
    · obtain ⟨x, hx⟩ := List.length_eq_one_iff.1 (HN.out.trans h1)
      have HO := Lib.hid (HTX.out.1 x hx)
      have HJX := Lib.hid (show J = x by rw [← HJE.out, hx]; rfl)
      subst h1
      clear h0 hx
      go_wp2
      refine bodyPost_ret (v := .tuple #[.agg #[.int .i64 2, .int .i64 fi, .string (ba J), .int .i64 0, .slice none 0 0], .bool true]) (by simp [results, Tryz.results95, go_sem, r0, r1, r2, r3, r4, z2]) rfl ?_
      refine lf_some HO.out (by rw [HFI.out, HJX.out]) rfl ?_ (leaf_ok (by omega) (by omega) (by omega))
      refine Below.alloc ?_ (by simp; omega) _
      repeat (first | (with_reducible exact HB2.out) | refine Below.setCell ?_ (by simp) _)
    · have HO := Lib.hid (HTX.out.2.2 (by omega))
      have g1 : ((N : Int) == 1) = false := by simp; omega
      have g2 : decide ((0 : Int) < (N : Int)) = true := decide_eq_true (by omega)
      have g3 : 0 < N := by omega
      clear h0 h1
      go_wp2
      refine bodyPost_ret (v := .tuple #[.agg #[.int .i64 3, .int .i64 fi, .string (ba J), .int .i64 0, .slice none 0 0], .bool true]) (by simp [results, Tryz.results95, go_sem, r0, r1, r2, r3, r4, z2]) rfl ?_
      refine lf_some HO.out (by rw [HFI.out]) rfl ?_ (leaf_ok (by omega) (by omega) (by omega))
      refine Below.alloc ?_ (by simp; omega) _
      repeat (first | (with_reducible exact HB2.out) | refine Below.setCell ?_ (by simp) _)
theorem plainQ_star {l w : List UInt8} {f : Nat} (h : l.getLast? = some 42) (h1 : listP l.dropLast = [w]) : plainQ l f = some (.mk 4 f w 0 []) := by unfold plainQ; rw [if_pos h, h1]
theorem plainQ_many {l : List UInt8} {f : Nat} (h : l.getLast? = some 42) (h1 : (listP l.dropLast).length ≠ 1) : plainQ l f = textQ l f := by
  unfold plainQ
  rw [if_pos h]
  split
  · rename_i w e; rw [e] at h1; exact absurd rfl h1
  · rfl
theorem plainQ_no {l : List UInt8} {f : Nat} (h : ¬ l.getLast? = some 42) : plainQ l f = textQ l f := by unfold plainQ; rw [if_neg h]
end Go.Proofs.YtomcdhmcjndioaaGreatDoor
end
section
namespace Go.Proofs.YtomcdhmcjndioaaGreatDoor
open Go.RowKit
set_option linter.unusedVariables false

def WclPost (w : World) (b : Nat) (e : Ending) (w' : World) : Prop := e = .returned (.bool false) ∧ w.grownBy w' (some b)
theorem bool_zero (W : World) : (zeroValue 4).run Tryz.prog W = .ok (.bool false) W := by
  simp [zeroValue, go_sem]
  try rfl
set_option maxRecDepth 100000 in
set_option maxHeartbeats 4000000 in
theorem wcl_any (x : List UInt8) (hx : x.length ≤ 1000000) (b g : Nat) (w : World) (hg : w.heap[g]? = some (.cells #[.map (some b)] 55 (0, 0))) (hm : MapL strK w b (fun _ => none) 0) :
    Calls Tryz.prog 22 #[.string (ba x), .pointer (some ⟨g, 0, none⟩)] w (WclPost w b) := by
  have hfit : strK.fits x := by show x.length ≤ maxLen; unfold maxLen; omega
  have hl := hm.look (t := 55) Tryz.underlying55 (bool_zero w) hfit
  obtain ⟨w', hr, _, hgr⟩ := hm.put (t := 55) Tryz.underlying55 (by unfold maxLen; omega) hfit (.bool true)
  have hl2 : (Instr.lookup 55 (.map (some b)) (.string (ba x)) false).run Tryz.prog w = .ok (.bool false) w := hl
  have hr2 : (Instr.mapUpdate 55 (.map (some b)) (.string (ba x)) (.bool true)).run Tryz.prog w = .ok () w' := hr
  have c0 : w.cell? ⟨g, 0, none⟩ = some (.map (some b)) := by rw [Lib.cell_of_heap hg]; rfl
  have HG := Lib.hid hgr
  clear hl hr hgr hm hg
  go_enter Tryz.func22, Tryz.ntmps22
  go_wp2
  go_ret
  exact ⟨rfl, HG.out⟩
def IfnPost (w : World) (b : Nat) (e : Ending) (w' : World) : Prop := e = .returned (.int .i64 (-1)) ∧ w.grownBy w' (some b)
set_option maxRecDepth 100000 in
set_option maxHeartbeats 4000000 in
theorem idxfn_any (ss : List (List UInt8)) (h1 : ss.length ≤ 1) (hx : ∀ x ∈ ss, x.length ≤ 1000000) (v : Value) (B : Nat) (b g : Nat) (w : World) (hv : OwnStrs w B v ss) (hg : w.heap[g]? = some (.cells #[.map (some b)] 55 (0, 0))) (hm : MapL strK w b (fun _ => none) 0) :
    Calls Tryz.prog 37 #[v, .func (.func 22) #[] #[.pointer (some ⟨g, 0, none⟩)]] w (IfnPost w b) := by
  obtain ⟨A, c, rfl, hc1, hc2, hst⟩ := hv.strs
  match ss, h1, hx with
  | [], _, _ =>
    clear hv hst hc1
    have HG := Lib.hid (World.grownBy.refl w (some b))
    show Calls _ _ #[.slice A 0 c, _] _ _
    go_enter Tryz.func37, Tryz.ntmps37
    go_wp2
    go_loopw [8] (fun i wr => i = .int .i64 0 ∧ wr = w) (fun i _ => 0)
    case atStart => exact ⟨rfl, rfl⟩
    case round =>
      obtain ⟨rfl, rfl⟩ := hrel
      go_wp2
      go_ret
      exact ⟨rfl, HG.out⟩
  | [x], _, hx =>
    have HW := Lib.hid (wcl_any x (hx x (by simp)) b g w hg hm)
    rcases hst.2 with h | ⟨ad, rfl, hb, hcell⟩
    · exact absurd h (by simp [sv])
    · have c0 : w.cell? ad = some (.string (ba x)) := by
        have h := hcell 0 (.string (ba x)) rfl
        have e0 : ad.add 0 = ad := by unfold Addr.add; rfl
        rw [e0] at h
        exact h
      unfold WclPost at HW
      clear hv hst hc1 hcell hg hm
      show Calls _ _ #[.slice (some ad) 1 c, _] _ _
      go_enter Tryz.func37, Tryz.ntmps37
      go_wp2
      have HG0 := Lib.hid (World.grownBy.refl w (some b))
      go_loopw [8] (fun i wr => ∃ k : Nat, k ≤ 1 ∧ i = .int .i64 (k : Int) ∧ (k = 0 → wr = w) ∧ Hid (w.grownBy wr (some b))) (fun i _ => 1 - (intOf i).toNat)
      case atStart => exact ⟨0, by omega, rfl, fun _ => rfl, HG0⟩
      case round =>
        obtain ⟨k, hk, rfl, hw, HG⟩ := hrel
        by_cases h0 : k = 0
        · obtain rfl := hw h0
          subst h0
          clear hw
          go_wp2_with fail
          refine HW.out.mono ?_
          rintro e w2 ⟨rfl, hg2⟩
          have HG2 := Lib.hid hg2
          clear hg2
          go_wp2
          go_roundw
          case rel => exact ⟨1, Nat.le_refl _, rfl, (fun h => by omega), HG2⟩
          case measure => simp [intOf]
        · obtain rfl : 1 = k := by omega
          clear hw h0
          go_wp2
          go_ret
          exact ⟨rfl, HG.out⟩
def DfnPost (w : World) (v : Value) (b : Nat) (e : Ending) (w' : World) : Prop := e = .returned v ∧ w.grownBy w' (some b)
set_option maxRecDepth 100000 in
set_option maxHeartbeats 4000000 in
theorem delfn_any (ss : List (List UInt8)) (h1 : ss.length ≤ 1) (hx : ∀ x ∈ ss, x.length ≤ 1000000) (v : Value) (B : Nat) (b g : Nat) (w : World) (hv : OwnStrs w B v ss) (hg : w.heap[g]? = some (.cells #[.map (some b)] 55 (0, 0))) (hm : MapL strK w b (fun _ => none) 0) :
    Calls Tryz.prog 21 #[v, .func (.func 22) #[] #[.pointer (some ⟨g, 0, none⟩)]] w (DfnPost w v b) := by
  have HI := Lib.hid (idxfn_any ss h1 hx v B b g w hv hg hm)
  unfold IfnPost at HI
  obtain ⟨A, c, rfl, hc1, hc2, hst⟩ := hv.strs
  clear hv hst hc1 hc2 hg hm
  go_enter Tryz.func21, Tryz.ntmps21
  go_wp2_with fail
  refine HI.out.mono ?_
  rintro e w2 ⟨rfl, hg2⟩
  have HG2 := Lib.hid hg2
  clear hg2
  go_wp2
  go_ret
  exact ⟨rfl, HG2.out⟩
/-- What is claimed of Words at the query q. -/
def WordsC (q : Qry) (ws : List (List UInt8)) : Prop := ∀ (w : World) (r : RawQ), QDeep w (fun _ => True) r q → QTabs w → Calls Tryz.prog 10 #[r.val] w (StrsBack w ws)
end Go.Proofs.YtomcdhmcjndioaaGreatDoor
end
section
namespace Go.Proofs.YtomcdhmcjndioaaGreatDoor
open Go.RowKit
set_option linter.unusedVariables false

/-- A string handed back, and whether there is one. -/
def WrPost (w : World) (o : Option (List UInt8)) (e : Ending) (w' : World) : Prop :=
  ∃ t : List UInt8, e = .returned (.tuple #[.string (ba t), .bool o.isSome]) ∧ (∀ x, o = some x → x = t) ∧ Below w.heap.size w w'
def WdPost (w : World) (b : Bool) (e : Ending) (w' : World) : Prop := e = .returned (.bool b) ∧ Below w.heap.size w w'
theorem join_regrown {w1 : World} {ss : List (List UInt8)} {A : Option Addr} {n c : Nat} {B : Nat} (h : OwnStrs w1 B (.slice A n c) ss) (hn : ss.length ≤ 140737488355328) (hl : (joinSp ss).length ≤ 140737488355328) (d : Nat) (os : Array Obj) :
    Calls Tryz.prog 40 #[.slice A n c, .string ⟨#[32]⟩] (Sort.grow (redrawn w1 d) os) fun e w'' => e = .returned (.string (ba (joinSp ss))) ∧ ∃ p : Regrown, w'' = Sort.grow (redrawn w1 p.d) p.os :=
  Calls.regrown_of (qjoin_any ss _ B _ (OwnStrs.below h (below_regrown w1 d os)) hn hl)
/-- The box of a query. -/
def WBox (w : World) (g : Nat) (r : RawQ) : Prop := w.heap[g]? = some (.cells #[.int .i64 r.op, .int .i64 r.fld, .string (ba r.text), .int .i64 r.n, .slice r.kids.1 r.kids.2.1 r.kids.2.2] 25 (0, 0))
theorem WBox.cells {w : World} {g : Nat} {o f : Int} {t : List UInt8} {n : Int} {A : Option Addr} {m c : Nat} (h : WBox w g ⟨o, f, t, n, (A, m, c)⟩) : w.cell? ⟨g, 0, none⟩ = some (.int .i64 o) ∧ w.cell? ⟨g, 1, none⟩ = some (.int .i64 f) ∧ w.cell? ⟨g, 2, none⟩ = some (.string (ba t)) ∧ w.cell? ⟨g, 3, none⟩ = some (.int .i64 n) ∧ w.cell? ⟨g, 4, none⟩ = some (.slice A m c) ∧ g < w.heap.size := by
  have h0 := h
  unfold WBox at h
  refine ⟨?_, ?_, ?_, ?_, ?_, heap_lt h0⟩ <;> (rw [Lib.cell_of_heap h]; rfl)
theorem wbox_new (w : World) (r : RawQ) : WBox (w.alloc (.cells #[.int .i64 r.op, .int .i64 r.fld, .string (ba r.text), .int .i64 r.n, .slice r.kids.1 r.kids.2.1 r.kids.2.2] 25)) w.heap.size r := (MapKept.heap_alloc w _).1
set_option maxRecDepth 100000 in
set_option maxHeartbeats 4000000 in
theorem worded_yes (op fld : Int) (t : List UInt8) (A0 : Option Addr) (m0 c0 : Nat) (m : Nat) (least most : Int) (hm : (listP t).length = m) (h1 : least ≤ m) (h2 : (m : Int) ≤ most) (hj : joinSp (listP t) = t) (ht : t.length ≤ 1000) (w : World) (hT : QTabs w) :
    Calls Tryz.prog 57 #[.agg #[.int .i64 op, .int .i64 fld, .string (ba t), .int .i64 0, .slice A0 m0 c0], .int .i64 least, .int .i64 most] w (WdPost w true) := by
  have hb0 : Below w.heap.size w (w.alloc (.cells #[.int .i64 op, .int .i64 fld, .string (ba t), .int .i64 0, .slice A0 m0 c0] 25)) := (Below.refl _ _).alloc (Nat.le_refl _) _
  have hlist := list_any t _ (hT.below hb0).fs (hT.below hb0).ks (by omega)
  have HK := Lib.hid (wbox_new w ⟨op, fld, t, 0, (A0, m0, c0)⟩)
  have HB0 := Lib.hid hb0
  have HL := Lib.hid hlist
  have HLC := Lib.hid (show (listP t).length ≤ 140737488355328 by have := list_count t; omega)
  have HJL := Lib.hid (show (joinSp (listP t)).length ≤ 140737488355328 by rw [hj]; omega)
  have HJ := Lib.hid hj
  have HM := Lib.hid hm
  have g1 : decide (least ≤ (m : Int)) = true := decide_eq_true h1
  have g2 : decide ((m : Int) ≤ most) = true := decide_eq_true h2
  clear hb0 hlist hT hj hm
  go_enter Tryz.func57, Tryz.ntmps57
  go_wp2_with fail
  refine HL.out.mono ?_
  rintro e w1 ⟨v, rfl, hv, hb⟩
  have HB1 := Lib.hid (HB0.out.trans (hb.mono HB0.out.size))
  obtain ⟨A, c, hvv, hc1, hc2, hst⟩ := hv.strs
  rw [HM.out] at hvv
  subst hvv
  have k1 := join_regrown hv HLC.out HJL.out
  rw [HJ.out] at k1
  have hk1 : WBox w1 w.heap.size ⟨op, fld, t, 0, (A0, m0, c0)⟩ := (hb.block _ (by simp)).trans HK.out
  obtain ⟨x0, x1, x2, x3, x4, xl⟩ := hk1.cells
  have y2 := cell_regrown x2
  have y3 := cell_regrown x3
  obtain ⟨S, hS⟩ : ∃ S, ba t = S := ⟨_, rfl⟩
  rw [hS] at k1 y2
  clear hb hv hst hc1 hc2 hk1 x0 x1 x2 x3 x4 hS
  go_wp2
  refine wp_region_quiet_below (by kernel_rfl) (by kernel_rfl) ?_
  repeat (quiet_step (exact k1 _ _))
  refine wpQuiet_nil ?_
  intro _ hw'
  obtain ⟨⟨dq, osq⟩, hw''⟩ := hw'
  subst hw''
  go_wp2
  go_ret
  exact ⟨rfl, HB1.out.trans ((below_regrown w1 dq osq).mono HB1.out.size)⟩
end Go.Proofs.YtomcdhmcjndioaaGreatDoor
end
section
namespace Go.Proofs.YtomcdhmcjndioaaGreatDoor
open Go.RowKit
set_option linter.unusedVariables false

set_option maxRecDepth 100000 in
set_option maxHeartbeats 4000000 in
theorem worded_no (op fld : Int) (t : List UInt8) (A0 : Option Addr) (m0 c0 : Nat) (m : Nat) (least most : Int) (hm : (listP t).length = m) (h1 : least ≤ m) (h2 : ¬ (m : Int) ≤ most) (ht : t.length ≤ 1000) (w : World) (hT : QTabs w) :
    Calls Tryz.prog 57 #[.agg #[.int .i64 op, .int .i64 fld, .string (ba t), .int .i64 0, .slice A0 m0 c0], .int .i64 least, .int .i64 most] w (WdPost w false) := by
  have hb0 : Below w.heap.size w (w.alloc (.cells #[.int .i64 op, .int .i64 fld, .string (ba t), .int .i64 0, .slice A0 m0 c0] 25)) := (Below.refl _ _).alloc (Nat.le_refl _) _
  have hlist := list_any t _ (hT.below hb0).fs (hT.below hb0).ks (by omega)
  have HK := Lib.hid (wbox_new w ⟨op, fld, t, 0, (A0, m0, c0)⟩)
  have HB0 := Lib.hid hb0
  have HL := Lib.hid hlist
  have HM := Lib.hid hm
  have g1 : decide (least ≤ (m : Int)) = true := decide_eq_true h1
  have g2 : decide ((m : Int) ≤ most) = false := decide_eq_false h2
  clear hb0 hlist hT hm
  go_enter Tryz.func57, Tryz.ntmps57
  go_wp2_with fail
  refine HL.out.mono ?_
  rintro e w1 ⟨v, rfl, hv, hb⟩
  have HB1 := Lib.hid (HB0.out.trans (hb.mono HB0.out.size))
  obtain ⟨A, c, hvv, hc1, hc2, hst⟩ := hv.strs
  rw [HM.out] at hvv
  subst hvv
  have hk1 : WBox w1 w.heap.size ⟨op, fld, t, 0, (A0, m0, c0)⟩ := (hb.block _ (by simp)).trans HK.out
  obtain ⟨x0, x1, x2, x3, x4, xl⟩ := hk1.cells
  have y3 := cell_regrown x3
  clear hb hv hst hc1 hc2 hk1 x0 x1 x2 x3 x4
  go_wp2
  refine wp_region_quiet_below (by kernel_rfl) (by kernel_rfl) ?_
  repeat (quiet_step (fail))
  refine wpQuiet_nil ?_
  intro _ hw'
  obtain ⟨⟨dq, osq⟩, hw''⟩ := hw'
  subst hw''
  go_wp2
  go_ret
  exact ⟨rfl, HB1.out.trans ((below_regrown w1 dq osq).mono HB1.out.size)⟩
/-- What is claimed of leaf at the query q. -/
def LeafC (q : Qry) (o : Option (List UInt8)) : Prop := ∀ (w : World) (r : RawQ), QDeep w (fun _ => True) r q → QTabs w → PowTab w → Calls Tryz.prog 39 #[r.val] w (WrPost w o)
theorem leaf_open {w : World} {P : Nat → Prop} {r : RawQ} {op fld n : Int} {t : List UInt8} (h : QDeep w P r (.mk op fld t n [])) : ∃ A c, r = ⟨op, fld, t, n, (A, 0, c)⟩ := by
  obtain ⟨o, f, t', n', A, m, c⟩ := r
  obtain ⟨kids, raws, e, hk, _, _⟩ := h.open_
  injection e with e1 e2 e3 e4 e5
  subst e1 e2 e3 e4 e5
  have := hk.size
  simp at this
  subst this
  exact ⟨A, c, rfl⟩
set_option maxRecDepth 100000 in
set_option maxHeartbeats 4000000 in
theorem leaf_L1 : LeafC (.mk 2 1 [97, 110, 110] 0 []) (some [102, 114, 111, 109, 58, 97, 110, 110]) := by
  intro w r hr hT hP
  obtain ⟨A, c, rfl⟩ := leaf_open hr
  unfold RawQ.val
  dsimp only
  have hb0 : Below w.heap.size w (w.alloc (.cells #[.int .i64 2, .int .i64 1, .string ⟨#[97, 110, 110]⟩, .int .i64 0, .slice A 0 c] 25)) := (Below.refl _ _).alloc (Nat.le_refl _) _
  have HB0 := Lib.hid hb0
  have HK := Lib.hid (wbox_new w ⟨2, 1, [97, 110, 110], 0, (A, 0, c)⟩)
  have HTB := Lib.hid (hT.below hb0)
  have HPT := Lib.hid (hP.below hb0)
  have hf0 : w.cell? ⟨0, 1, none⟩ = some (.string ⟨#[102, 114, 111, 109]⟩) := hT.fld 1 (by decide)
  have hlt0 := hT.lt.2.2
  show Calls _ _ #[.agg #[.int .i64 2, .int .i64 1, .string ⟨#[97, 110, 110]⟩, .int .i64 0, .slice A 0 c]] _ _
  obtain ⟨W0, hW0⟩ : ∃ W0, w.alloc (.cells #[.int .i64 2, .int .i64 1, .string ⟨#[97, 110, 110]⟩, .int .i64 0, .slice A 0 c] 25) = W0 := ⟨_, rfl⟩
  have HW0 := Lib.hid hW0
  have hk : WBox W0 w.heap.size ⟨2, 1, [97, 110, 110], 0, (A, 0, c)⟩ := by rw [← hW0]; exact HK.out
  rw [hW0] at HB0 HTB HPT
  obtain ⟨x0, x1, x2, x3, x4, xl⟩ := hk.cells
  have x2 : W0.cell? ⟨w.heap.size, 2, none⟩ = some (.string ⟨#[97, 110, 110]⟩) := x2
  have y0 := cell_regrown x0
  have y1 := cell_regrown x1
  have y2 := cell_regrown x2
  have y3 := cell_regrown x3
  have y4 := cell_regrown x4
  have hwd : ∀ d os, Calls Tryz.prog 57 #[.agg #[.int .i64 2, .int .i64 1, .string ⟨#[97, 110, 110]⟩, .int .i64 0, .slice A 0 c], .int .i64 1, .int .i64 1] (Sort.grow (redrawn W0 d) os) fun e w'' => e = .returned (.bool true) ∧ ∃ p : Regrown, w'' = Sort.grow (redrawn W0 p.d) p.os := fun d os => Calls.regrown_of (worded_yes 2 1 [97, 110, 110] A 0 c 1 1 1 (by kernel_rfl) (by decide) (by decide) (by kernel_rfl) (by decide) _ (HTB.out.below (below_regrown W0 d os)))
  clear hT hP hr hb0 hk HK hW0
  go_enter Tryz.func39, Tryz.ntmps39
  go_wp2_with fail
  rw [HW0.out]
  go_wp2_with fail
  refine wp_region_quiet_below (by kernel_rfl) (by kernel_rfl) ?_
  repeat (quiet_step (exact hwd _ _))
  refine wpQuiet_nil ?_
  intro _ hw'
  obtain ⟨⟨dq, osq⟩, hw''⟩ := hw'
  subst hw''
  go_wp2
  go_ret2
  exact ⟨[102, 114, 111, 109, 58, 97, 110, 110], rfl, (fun x h => (Option.some.inj h).symm), HB0.out.trans ((below_regrown W0 dq osq).mono HB0.out.size)⟩
set_option maxRecDepth 100000 in
set_option maxHeartbeats 4000000 in
theorem leaf_L2 : LeafC (.mk 2 0 [120] 0 []) (some [120]) := by
  intro w r hr hT hP
  obtain ⟨A, c, rfl⟩ := leaf_open hr
  unfold RawQ.val
  dsimp only
  have hb0 : Below w.heap.size w (w.alloc (.cells #[.int .i64 2, .int .i64 0, .string ⟨#[120]⟩, .int .i64 0, .slice A 0 c] 25)) := (Below.refl _ _).alloc (Nat.le_refl _) _
  have HB0 := Lib.hid hb0
  have HK := Lib.hid (wbox_new w ⟨2, 0, [120], 0, (A, 0, c)⟩)
  have HTB := Lib.hid (hT.below hb0)
  have HPT := Lib.hid (hP.below hb0)
  have hf0 : w.cell? ⟨0, 0, none⟩ = some (.string ⟨#[]⟩) := hT.fld 0 (by decide)
  have hlt0 := hT.lt.2.2
  show Calls _ _ #[.agg #[.int .i64 2, .int .i64 0, .string ⟨#[120]⟩, .int .i64 0, .slice A 0 c]] _ _
  obtain ⟨W0, hW0⟩ : ∃ W0, w.alloc (.cells #[.int .i64 2, .int .i64 0, .string ⟨#[120]⟩, .int .i64 0, .slice A 0 c] 25) = W0 := ⟨_, rfl⟩
  have HW0 := Lib.hid hW0
  have hk : WBox W0 w.heap.size ⟨2, 0, [120], 0, (A, 0, c)⟩ := by rw [← hW0]; exact HK.out
  rw [hW0] at HB0 HTB HPT
  obtain ⟨x0, x1, x2, x3, x4, xl⟩ := hk.cells
  have x2 : W0.cell? ⟨w.heap.size, 2, none⟩ = some (.string ⟨#[120]⟩) := x2
  have y0 := cell_regrown x0
  have y1 := cell_regrown x1
  have y2 := cell_regrown x2
  have y3 := cell_regrown x3
  have y4 := cell_regrown x4
  have hwd : ∀ d os, Calls Tryz.prog 57 #[.agg #[.int .i64 2, .int .i64 0, .string ⟨#[120]⟩, .int .i64 0, .slice A 0 c], .int .i64 1, .int .i64 1] (Sort.grow (redrawn W0 d) os) fun e w'' => e = .returned (.bool true) ∧ ∃ p : Regrown, w'' = Sort.grow (redrawn W0 p.d) p.os := fun d os => Calls.regrown_of (worded_yes 2 0 [120] A 0 c 1 1 1 (by kernel_rfl) (by decide) (by decide) (by kernel_rfl) (by decide) _ (HTB.out.below (below_regrown W0 d os)))
  clear hT hP hr hb0 hk HK hW0
  go_enter Tryz.func39, Tryz.ntmps39
  go_wp2_with fail
  rw [HW0.out]
  go_wp2_with fail
  refine wp_region_quiet_below (by kernel_rfl) (by kernel_rfl) ?_
  repeat (quiet_step (exact hwd _ _))
  refine wpQuiet_nil ?_
  intro _ hw'
  obtain ⟨⟨dq, osq⟩, hw''⟩ := hw'
  subst hw''
  go_wp2
  go_ret2
  exact ⟨[120], rfl, (fun x h => (Option.some.inj h).symm), HB0.out.trans ((below_regrown W0 dq osq).mono HB0.out.size)⟩
set_option maxRecDepth 100000 in
set_option maxHeartbeats 4000000 in
theorem leaf_L3 : LeafC (.mk 3 0 [121, 32, 122] 0 []) (some [34, 121, 32, 122, 34]) := by
  intro w r hr hT hP
  obtain ⟨A, c, rfl⟩ := leaf_open hr
  unfold RawQ.val
  dsimp only
  have hb0 : Below w.heap.size w (w.alloc (.cells #[.int .i64 3, .int .i64 0, .string ⟨#[121, 32, 122]⟩, .int .i64 0, .slice A 0 c] 25)) := (Below.refl _ _).alloc (Nat.le_refl _) _
  have HB0 := Lib.hid hb0
  have HK := Lib.hid (wbox_new w ⟨3, 0, [121, 32, 122], 0, (A, 0, c)⟩)
  have HTB := Lib.hid (hT.below hb0)
  have HPT := Lib.hid (hP.below hb0)
  have hf0 : w.cell? ⟨0, 0, none⟩ = some (.string ⟨#[]⟩) := hT.fld 0 (by decide)
  have hlt0 := hT.lt.2.2
  show Calls _ _ #[.agg #[.int .i64 3, .int .i64 0, .string ⟨#[121, 32, 122]⟩, .int .i64 0, .slice A 0 c]] _ _
  obtain ⟨W0, hW0⟩ : ∃ W0, w.alloc (.cells #[.int .i64 3, .int .i64 0, .string ⟨#[121, 32, 122]⟩, .int .i64 0, .slice A 0 c] 25) = W0 := ⟨_, rfl⟩
  have HW0 := Lib.hid hW0
  have hk : WBox W0 w.heap.size ⟨3, 0, [121, 32, 122], 0, (A, 0, c)⟩ := by rw [← hW0]; exact HK.out
  rw [hW0] at HB0 HTB HPT
  obtain ⟨x0, x1, x2, x3, x4, xl⟩ := hk.cells
  have x2 : W0.cell? ⟨w.heap.size, 2, none⟩ = some (.string ⟨#[121, 32, 122]⟩) := x2
  have y0 := cell_regrown x0
  have y1 := cell_regrown x1
  have y2 := cell_regrown x2
  have y3 := cell_regrown x3
  have y4 := cell_regrown x4
  have hwd : ∀ d os, Calls Tryz.prog 57 #[.agg #[.int .i64 3, .int .i64 0, .string ⟨#[121, 32, 122]⟩, .int .i64 0, .slice A 0 c], .int .i64 2, .int .i64 9223372036854775807] (Sort.grow (redrawn W0 d) os) fun e w'' => e = .returned (.bool true) ∧ ∃ p : Regrown, w'' = Sort.grow (redrawn W0 p.d) p.os := fun d os => Calls.regrown_of (worded_yes 3 0 [121, 32, 122] A 0 c 2 2 9223372036854775807 (by kernel_rfl) (by decide) (by decide) (by kernel_rfl) (by decide) _ (HTB.out.below (below_regrown W0 d os)))
  clear hT hP hr hb0 hk HK hW0
  go_enter Tryz.func39, Tryz.ntmps39
  go_wp2_with fail
  rw [HW0.out]
  go_wp2_with fail
  refine wp_region_quiet_below (by kernel_rfl) (by kernel_rfl) ?_
  repeat (quiet_step (exact hwd _ _))
  refine wpQuiet_nil ?_
  intro _ hw'
  obtain ⟨⟨dq, osq⟩, hw''⟩ := hw'
  subst hw''
  go_wp2
  go_ret2
  exact ⟨[34, 121, 32, 122, 34], rfl, (fun x h => (Option.some.inj h).symm), HB0.out.trans ((below_regrown W0 dq osq).mono HB0.out.size)⟩
set_option maxRecDepth 100000 in
set_option maxHeartbeats 4000000 in
theorem leaf_L4 : LeafC (.mk 9 0 [] 2048 []) (some [108, 97, 114, 103, 101, 114, 58, 50, 75]) := by
  intro w r hr hT hP
  obtain ⟨A, c, rfl⟩ := leaf_open hr
  unfold RawQ.val
  dsimp only
  have hb0 : Below w.heap.size w (w.alloc (.cells #[.int .i64 9, .int .i64 0, .string ⟨#[]⟩, .int .i64 2048, .slice A 0 c] 25)) := (Below.refl _ _).alloc (Nat.le_refl _) _
  have HB0 := Lib.hid hb0
  have HK := Lib.hid (wbox_new w ⟨9, 0, [], 2048, (A, 0, c)⟩)
  have HTB := Lib.hid (hT.below hb0)
  have HPT := Lib.hid (hP.below hb0)
  have hf0 : w.cell? ⟨0, 0, none⟩ = some (.string ⟨#[]⟩) := hT.fld 0 (by decide)
  have hlt0 := hT.lt.2.2
  show Calls _ _ #[.agg #[.int .i64 9, .int .i64 0, .string ⟨#[]⟩, .int .i64 2048, .slice A 0 c]] _ _
  obtain ⟨W0, hW0⟩ : ∃ W0, w.alloc (.cells #[.int .i64 9, .int .i64 0, .string ⟨#[]⟩, .int .i64 2048, .slice A 0 c] 25) = W0 := ⟨_, rfl⟩
  have HW0 := Lib.hid hW0
  have hk : WBox W0 w.heap.size ⟨9, 0, [], 2048, (A, 0, c)⟩ := by rw [← hW0]; exact HK.out
  rw [hW0] at HB0 HTB HPT
  obtain ⟨x0, x1, x2, x3, x4, xl⟩ := hk.cells
  have x2 : W0.cell? ⟨w.heap.size, 2, none⟩ = some (.string ⟨#[]⟩) := x2
  have y0 := cell_regrown x0
  have y1 := cell_regrown x1
  have y2 := cell_regrown x2
  have y3 := cell_regrown x3
  have y4 := cell_regrown x4
  have HKK := Lib.hid hk
  clear hT hP hr hb0 hk HK hW0
  go_enter Tryz.func39, Tryz.ntmps39
  go_wp2_with fail
  rw [HW0.out]
  go_wp2_with fail
  refine (count_2048 W0 HPT.out).mono ?_
  rintro e w2 ⟨rfl, hb2⟩
  have HB2 := Lib.hid hb2
  have hk2 : WBox w2 w.heap.size ⟨9, 0, [], 2048, (A, 0, c)⟩ := (hb2.block _ xl).trans HKK.out
  clear y0 y1 y2 y3 y4 x0 x1 x2 x3 x4 hb2
  obtain ⟨x0, x1, x2, x3, x4, -⟩ := hk2.cells
  clear hk2
  go_wp2_with fail
  refine (sized_2048 w2 (HPT.out.below HB2.out) (HTB.out.below HB2.out)).mono ?_
  rintro e w3 ⟨rfl, hb3⟩
  have HB3 := Lib.hid (HB0.out.trans ((HB2.out.trans (hb3.mono HB2.out.size)).mono HB0.out.size))
  clear hb3
  go_wp2
  go_ret2
  exact ⟨[108, 97, 114, 103, 101, 114, 58, 50, 75], rfl, (fun x h => (Option.some.inj h).symm), HB3.out⟩
set_option maxRecDepth 100000 in
set_option maxHeartbeats 4000000 in
theorem leaf_L5 : LeafC (.mk 5 0 [115, 101, 101, 110] 0 []) (some [105, 115, 58, 115, 101, 101, 110]) := by
  intro w r hr hT hP
  obtain ⟨A, c, rfl⟩ := leaf_open hr
  unfold RawQ.val
  dsimp only
  have hb0 : Below w.heap.size w (w.alloc (.cells #[.int .i64 5, .int .i64 0, .string ⟨#[115, 101, 101, 110]⟩, .int .i64 0, .slice A 0 c] 25)) := (Below.refl _ _).alloc (Nat.le_refl _) _
  have HB0 := Lib.hid hb0
  have HK := Lib.hid (wbox_new w ⟨5, 0, [115, 101, 101, 110], 0, (A, 0, c)⟩)
  have HTB := Lib.hid (hT.below hb0)
  have HPT := Lib.hid (hP.below hb0)
  have hf0 : w.cell? ⟨0, 0, none⟩ = some (.string ⟨#[]⟩) := hT.fld 0 (by decide)
  have hlt0 := hT.lt.2.2
  show Calls _ _ #[.agg #[.int .i64 5, .int .i64 0, .string ⟨#[115, 101, 101, 110]⟩, .int .i64 0, .slice A 0 c]] _ _
  obtain ⟨W0, hW0⟩ : ∃ W0, w.alloc (.cells #[.int .i64 5, .int .i64 0, .string ⟨#[115, 101, 101, 110]⟩, .int .i64 0, .slice A 0 c] 25) = W0 := ⟨_, rfl⟩
  have HW0 := Lib.hid hW0
  have hk : WBox W0 w.heap.size ⟨5, 0, [115, 101, 101, 110], 0, (A, 0, c)⟩ := by rw [← hW0]; exact HK.out
  rw [hW0] at HB0 HTB HPT
  obtain ⟨x0, x1, x2, x3, x4, xl⟩ := hk.cells
  have x2 : W0.cell? ⟨w.heap.size, 2, none⟩ = some (.string ⟨#[115, 101, 101, 110]⟩) := x2
  have y0 := cell_regrown x0
  have y1 := cell_regrown x1
  have y2 := cell_regrown x2
  have y3 := cell_regrown x3
  have y4 := cell_regrown x4
  have hwd : ∀ d os, Calls Tryz.prog 58 #[.string ⟨#[115, 101, 101, 110]⟩] (Sort.grow (redrawn W0 d) os) fun e w'' => e = .returned (.bool true) ∧ ∃ p : Regrown, w'' = Sort.grow (redrawn W0 p.d) p.os := fun d os => Calls.regrown_of (by have h := qflag_any [115, 101, 101, 110] (Sort.grow (redrawn W0 d) os); rw [show flagQ [115, 101, 101, 110] = true by kernel_rfl] at h; exact h)
  clear hT hP hr hb0 hk HK hW0
  go_enter Tryz.func39, Tryz.ntmps39
  go_wp2_with fail
  rw [HW0.out]
  go_wp2_with fail
  refine wp_region_quiet_below (by kernel_rfl) (by kernel_rfl) ?_
  repeat (quiet_step (exact hwd _ _))
  refine wpQuiet_nil ?_
  intro _ hw'
  obtain ⟨⟨dq, osq⟩, hw''⟩ := hw'
  subst hw''
  go_wp2
  go_ret2
  exact ⟨[105, 115, 58, 115, 101, 101, 110], rfl, (fun x h => (Option.some.inj h).symm), HB0.out.trans ((below_regrown W0 dq osq).mono HB0.out.size)⟩
set_option maxRecDepth 100000 in
set_option maxHeartbeats 4000000 in
theorem leaf_L6 : LeafC (.mk 7 0 [] 946771200 []) (some [98, 101, 102, 111, 114, 101, 58, 50, 48, 48, 48, 45, 48, 49, 45, 48, 50]) := by
  intro w r hr hT hP
  obtain ⟨A, c, rfl⟩ := leaf_open hr
  unfold RawQ.val
  dsimp only
  have hb0 : Below w.heap.size w (w.alloc (.cells #[.int .i64 7, .int .i64 0, .string ⟨#[]⟩, .int .i64 946771200, .slice A 0 c] 25)) := (Below.refl _ _).alloc (Nat.le_refl _) _
  have HB0 := Lib.hid hb0
  have HK := Lib.hid (wbox_new w ⟨7, 0, [], 946771200, (A, 0, c)⟩)
  have HTB := Lib.hid (hT.below hb0)
  have HPT := Lib.hid (hP.below hb0)
  have hf0 : w.cell? ⟨0, 0, none⟩ = some (.string ⟨#[]⟩) := hT.fld 0 (by decide)
  have hlt0 := hT.lt.2.2
  show Calls _ _ #[.agg #[.int .i64 7, .int .i64 0, .string ⟨#[]⟩, .int .i64 946771200, .slice A 0 c]] _ _
  obtain ⟨W0, hW0⟩ : ∃ W0, w.alloc (.cells #[.int .i64 7, .int .i64 0, .string ⟨#[]⟩, .int .i64 946771200, .slice A 0 c] 25) = W0 := ⟨_, rfl⟩
  have HW0 := Lib.hid hW0
  have hk : WBox W0 w.heap.size ⟨7, 0, [], 946771200, (A, 0, c)⟩ := by rw [← hW0]; exact HK.out
  rw [hW0] at HB0 HTB HPT
  obtain ⟨x0, x1, x2, x3, x4, xl⟩ := hk.cells
  have x2 : W0.cell? ⟨w.heap.size, 2, none⟩ = some (.string ⟨#[]⟩) := x2
  have y0 := cell_regrown x0
  have y1 := cell_regrown x1
  have y2 := cell_regrown x2
  have y3 := cell_regrown x3
  have y4 := cell_regrown x4
  clear hT hP hr hb0 hk HK hW0
  go_enter Tryz.func39, Tryz.ntmps39
  go_wp2_with fail
  rw [HW0.out]
  go_wp2_with fail
  refine (dated_2000 W0 HPT.out).mono ?_
  rintro e w2 ⟨rfl, hb2⟩
  have HB2 := Lib.hid (HB0.out.trans (hb2.mono HB0.out.size))
  clear hb2
  go_wp2
  go_ret2
  exact ⟨[98, 101, 102, 111, 114, 101, 58, 50, 48, 48, 48, 45, 48, 49, 45, 48, 50], rfl, (fun x h => (Option.some.inj h).symm), HB2.out⟩
set_option maxRecDepth 100000 in
set_option maxHeartbeats 4000000 in
theorem leaf_L7 : LeafC (.mk 3 2 [97, 98, 32, 99] 0 []) (some [116, 111, 58, 34, 97, 98, 32, 99, 34]) := by
  intro w r hr hT hP
  obtain ⟨A, c, rfl⟩ := leaf_open hr
  unfold RawQ.val
  dsimp only
  have hb0 : Below w.heap.size w (w.alloc (.cells #[.int .i64 3, .int .i64 2, .string ⟨#[97, 98, 32, 99]⟩, .int .i64 0, .slice A 0 c] 25)) := (Below.refl _ _).alloc (Nat.le_refl _) _
  have HB0 := Lib.hid hb0
  have HK := Lib.hid (wbox_new w ⟨3, 2, [97, 98, 32, 99], 0, (A, 0, c)⟩)
  have HTB := Lib.hid (hT.below hb0)
  have HPT := Lib.hid (hP.below hb0)
  have hf0 : w.cell? ⟨0, 2, none⟩ = some (.string ⟨#[116, 111]⟩) := hT.fld 2 (by decide)
  have hlt0 := hT.lt.2.2
  show Calls _ _ #[.agg #[.int .i64 3, .int .i64 2, .string ⟨#[97, 98, 32, 99]⟩, .int .i64 0, .slice A 0 c]] _ _
  obtain ⟨W0, hW0⟩ : ∃ W0, w.alloc (.cells #[.int .i64 3, .int .i64 2, .string ⟨#[97, 98, 32, 99]⟩, .int .i64 0, .slice A 0 c] 25) = W0 := ⟨_, rfl⟩
  have HW0 := Lib.hid hW0
  have hk : WBox W0 w.heap.size ⟨3, 2, [97, 98, 32, 99], 0, (A, 0, c)⟩ := by rw [← hW0]; exact HK.out
  rw [hW0] at HB0 HTB HPT
  obtain ⟨x0, x1, x2, x3, x4, xl⟩ := hk.cells
  have x2 : W0.cell? ⟨w.heap.size, 2, none⟩ = some (.string ⟨#[97, 98, 32, 99]⟩) := x2
  have y0 := cell_regrown x0
  have y1 := cell_regrown x1
  have y2 := cell_regrown x2
  have y3 := cell_regrown x3
  have y4 := cell_regrown x4
  have hwd : ∀ d os, Calls Tryz.prog 57 #[.agg #[.int .i64 3, .int .i64 2, .string ⟨#[97, 98, 32, 99]⟩, .int .i64 0, .slice A 0 c], .int .i64 2, .int .i64 9223372036854775807] (Sort.grow (redrawn W0 d) os) fun e w'' => e = .returned (.bool true) ∧ ∃ p : Regrown, w'' = Sort.grow (redrawn W0 p.d) p.os := fun d os => Calls.regrown_of (worded_yes 3 2 [97, 98, 32, 99] A 0 c 2 2 9223372036854775807 (by kernel_rfl) (by decide) (by decide) (by kernel_rfl) (by decide) _ (HTB.out.below (below_regrown W0 d os)))
  clear hT hP hr hb0 hk HK hW0
  go_enter Tryz.func39, Tryz.ntmps39
  go_wp2_with fail
  rw [HW0.out]
  go_wp2_with fail
  refine wp_region_quiet_below (by kernel_rfl) (by kernel_rfl) ?_
  repeat (quiet_step (exact hwd _ _))
  refine wpQuiet_nil ?_
  intro _ hw'
  obtain ⟨⟨dq, osq⟩, hw''⟩ := hw'
  subst hw''
  go_wp2
  go_ret2
  exact ⟨[116, 111, 58, 34, 97, 98, 32, 99, 34], rfl, (fun x h => (Option.some.inj h).symm), HB0.out.trans ((below_regrown W0 dq osq).mono HB0.out.size)⟩
set_option maxRecDepth 100000 in
set_option maxHeartbeats 4000000 in
theorem leaf_L8 : LeafC (.mk 4 0 [100] 0 []) (some [100, 42]) := by
  intro w r hr hT hP
  obtain ⟨A, c, rfl⟩ := leaf_open hr
  unfold RawQ.val
  dsimp only
  have hb0 : Below w.heap.size w (w.alloc (.cells #[.int .i64 4, .int .i64 0, .string ⟨#[100]⟩, .int .i64 0, .slice A 0 c] 25)) := (Below.refl _ _).alloc (Nat.le_refl _) _
  have HB0 := Lib.hid hb0
  have HK := Lib.hid (wbox_new w ⟨4, 0, [100], 0, (A, 0, c)⟩)
  have HTB := Lib.hid (hT.below hb0)
  have HPT := Lib.hid (hP.below hb0)
  have hf0 : w.cell? ⟨0, 0, none⟩ = some (.string ⟨#[]⟩) := hT.fld 0 (by decide)
  have hlt0 := hT.lt.2.2
  show Calls _ _ #[.agg #[.int .i64 4, .int .i64 0, .string ⟨#[100]⟩, .int .i64 0, .slice A 0 c]] _ _
  obtain ⟨W0, hW0⟩ : ∃ W0, w.alloc (.cells #[.int .i64 4, .int .i64 0, .string ⟨#[100]⟩, .int .i64 0, .slice A 0 c] 25) = W0 := ⟨_, rfl⟩
  have HW0 := Lib.hid hW0
  have hk : WBox W0 w.heap.size ⟨4, 0, [100], 0, (A, 0, c)⟩ := by rw [← hW0]; exact HK.out
  rw [hW0] at HB0 HTB HPT
  obtain ⟨x0, x1, x2, x3, x4, xl⟩ := hk.cells
  have x2 : W0.cell? ⟨w.heap.size, 2, none⟩ = some (.string ⟨#[100]⟩) := x2
  have y0 := cell_regrown x0
  have y1 := cell_regrown x1
  have y2 := cell_regrown x2
  have y3 := cell_regrown x3
  have y4 := cell_regrown x4
  have hwd : ∀ d os, Calls Tryz.prog 57 #[.agg #[.int .i64 4, .int .i64 0, .string ⟨#[100]⟩, .int .i64 0, .slice A 0 c], .int .i64 1, .int .i64 1] (Sort.grow (redrawn W0 d) os) fun e w'' => e = .returned (.bool true) ∧ ∃ p : Regrown, w'' = Sort.grow (redrawn W0 p.d) p.os := fun d os => Calls.regrown_of (worded_yes 4 0 [100] A 0 c 1 1 1 (by kernel_rfl) (by decide) (by decide) (by kernel_rfl) (by decide) _ (HTB.out.below (below_regrown W0 d os)))
  clear hT hP hr hb0 hk HK hW0
  go_enter Tryz.func39, Tryz.ntmps39
  go_wp2_with fail
  rw [HW0.out]
  go_wp2_with fail
  refine wp_region_quiet_below (by kernel_rfl) (by kernel_rfl) ?_
  repeat (quiet_step (exact hwd _ _))
  refine wpQuiet_nil ?_
  intro _ hw'
  obtain ⟨⟨dq, osq⟩, hw''⟩ := hw'
  subst hw''
  go_wp2
  go_ret2
  exact ⟨[100, 42], rfl, (fun x h => (Option.some.inj h).symm), HB0.out.trans ((below_regrown W0 dq osq).mono HB0.out.size)⟩
set_option maxRecDepth 100000 in
set_option maxHeartbeats 4000000 in
theorem leaf_L9 : LeafC (.mk 6 0 [] 7 []) (some [105, 110, 58, 55]) := by
  intro w r hr hT hP
  obtain ⟨A, c, rfl⟩ := leaf_open hr
  unfold RawQ.val
  dsimp only
  have hb0 : Below w.heap.size w (w.alloc (.cells #[.int .i64 6, .int .i64 0, .string ⟨#[]⟩, .int .i64 7, .slice A 0 c] 25)) := (Below.refl _ _).alloc (Nat.le_refl _) _
  have HB0 := Lib.hid hb0
  have HK := Lib.hid (wbox_new w ⟨6, 0, [], 7, (A, 0, c)⟩)
  have HTB := Lib.hid (hT.below hb0)
  have HPT := Lib.hid (hP.below hb0)
  have hf0 : w.cell? ⟨0, 0, none⟩ = some (.string ⟨#[]⟩) := hT.fld 0 (by decide)
  have hlt0 := hT.lt.2.2
  show Calls _ _ #[.agg #[.int .i64 6, .int .i64 0, .string ⟨#[]⟩, .int .i64 7, .slice A 0 c]] _ _
  obtain ⟨W0, hW0⟩ : ∃ W0, w.alloc (.cells #[.int .i64 6, .int .i64 0, .string ⟨#[]⟩, .int .i64 7, .slice A 0 c] 25) = W0 := ⟨_, rfl⟩
  have HW0 := Lib.hid hW0
  have hk : WBox W0 w.heap.size ⟨6, 0, [], 7, (A, 0, c)⟩ := by rw [← hW0]; exact HK.out
  rw [hW0] at HB0 HTB HPT
  obtain ⟨x0, x1, x2, x3, x4, xl⟩ := hk.cells
  have x2 : W0.cell? ⟨w.heap.size, 2, none⟩ = some (.string ⟨#[]⟩) := x2
  have y0 := cell_regrown x0
  have y1 := cell_regrown x1
  have y2 := cell_regrown x2
  have y3 := cell_regrown x3
  have y4 := cell_regrown x4
  have hwd : ∀ d os, Calls Tryz.prog 59 #[.int .i64 7] (Sort.grow (redrawn W0 d) os) fun e w'' => e = .returned (.string ⟨#[55]⟩) ∧ ∃ p : Regrown, w'' = Sort.grow (redrawn W0 p.d) p.os := fun d os => Calls.regrown_of (by have h := ntext_any ((7 : Nat) : Int) (by decide) (by decide) (Sort.grow (redrawn W0 d) os) (HPT.out.below (below_regrown W0 d os)); rw [itoa_one 7 (by decide)] at h; exact h)
  clear hT hP hr hb0 hk HK hW0
  go_enter Tryz.func39, Tryz.ntmps39
  go_wp2_with fail
  rw [HW0.out]
  go_wp2_with fail
  refine wp_region_quiet_below (by kernel_rfl) (by kernel_rfl) ?_
  repeat (quiet_step (exact hwd _ _))
  refine wpQuiet_nil ?_
  intro _ hw'
  obtain ⟨⟨dq, osq⟩, hw''⟩ := hw'
  subst hw''
  go_wp2
  go_ret2
  exact ⟨[105, 110, 58, 55], rfl, (fun x h => (Option.some.inj h).symm), HB0.out.trans ((below_regrown W0 dq osq).mono HB0.out.size)⟩
set_option maxRecDepth 100000 in
set_option maxHeartbeats 4000000 in
theorem leaf_L10 : LeafC (.mk 2 0 [97, 32, 98] 0 []) none := by
  intro w r hr hT hP
  obtain ⟨A, c, rfl⟩ := leaf_open hr
  unfold RawQ.val
  dsimp only
  have hb0 : Below w.heap.size w (w.alloc (.cells #[.int .i64 2, .int .i64 0, .string ⟨#[97, 32, 98]⟩, .int .i64 0, .slice A 0 c] 25)) := (Below.refl _ _).alloc (Nat.le_refl _) _
  have HB0 := Lib.hid hb0
  have HK := Lib.hid (wbox_new w ⟨2, 0, [97, 32, 98], 0, (A, 0, c)⟩)
  have HTB := Lib.hid (hT.below hb0)
  have HPT := Lib.hid (hP.below hb0)
  have hf0 : w.cell? ⟨0, 0, none⟩ = some (.string ⟨#[]⟩) := hT.fld 0 (by decide)
  have hlt0 := hT.lt.2.2
  show Calls _ _ #[.agg #[.int .i64 2, .int .i64 0, .string ⟨#[97, 32, 98]⟩, .int .i64 0, .slice A 0 c]] _ _
  obtain ⟨W0, hW0⟩ : ∃ W0, w.alloc (.cells #[.int .i64 2, .int .i64 0, .string ⟨#[97, 32, 98]⟩, .int .i64 0, .slice A 0 c] 25) = W0 := ⟨_, rfl⟩
  have HW0 := Lib.hid hW0
  have hk : WBox W0 w.heap.size ⟨2, 0, [97, 32, 98], 0, (A, 0, c)⟩ := by rw [← hW0]; exact HK.out
  rw [hW0] at HB0 HTB HPT
  obtain ⟨x0, x1, x2, x3, x4, xl⟩ := hk.cells
  have x2 : W0.cell? ⟨w.heap.size, 2, none⟩ = some (.string ⟨#[97, 32, 98]⟩) := x2
  have y0 := cell_regrown x0
  have y1 := cell_regrown x1
  have y2 := cell_regrown x2
  have y3 := cell_regrown x3
  have y4 := cell_regrown x4
  have hwd : ∀ d os, Calls Tryz.prog 57 #[.agg #[.int .i64 2, .int .i64 0, .string ⟨#[97, 32, 98]⟩, .int .i64 0, .slice A 0 c], .int .i64 1, .int .i64 1] (Sort.grow (redrawn W0 d) os) fun e w'' => e = .returned (.bool false) ∧ ∃ p : Regrown, w'' = Sort.grow (redrawn W0 p.d) p.os := fun d os => Calls.regrown_of (worded_no 2 0 [97, 32, 98] A 0 c 2 1 1 (by kernel_rfl) (by decide) (by decide) (by decide) _ (HTB.out.below (below_regrown W0 d os)))
  clear hT hP hr hb0 hk HK hW0
  go_enter Tryz.func39, Tryz.ntmps39
  go_wp2_with fail
  rw [HW0.out]
  go_wp2_with fail
  refine wp_region_quiet_below (by kernel_rfl) (by kernel_rfl) ?_
  repeat (quiet_step (exact hwd _ _))
  refine wpQuiet_nil ?_
  intro _ hw'
  obtain ⟨⟨dq, osq⟩, hw''⟩ := hw'
  subst hw''
  go_wp2
  go_ret2
  exact ⟨[97, 32, 98], rfl, (fun x h => by cases h), HB0.out.trans ((below_regrown W0 dq osq).mono HB0.out.size)⟩
end Go.Proofs.YtomcdhmcjndioaaGreatDoor
end
