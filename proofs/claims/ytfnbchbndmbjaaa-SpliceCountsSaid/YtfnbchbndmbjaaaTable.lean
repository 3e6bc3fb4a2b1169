/- The reference's table of lengths: a slice of slices whose entry (r, c) is the length of the longest common subsequence of the rests. -/
import Derived.Test.YtfnbchbndmbjaaaPlain
import Derived.StillTailTactics
import Derived.Laws.MakeOwn
namespace Go.Proofs.Ytfnbchbndmbjaaa
open Go.RowKit
set_option linter.unusedVariables false

theorem slices_info : (Try.prog.info? 22).map (fun i => (i.zero, i.size, i.bytes)) = some (some (.slice none 0 0), 1, 24) := by kernel_rfl

def zer (n : Nat) : Array Value := madeCells #[.int .i64 0] n
def nils (n : Nat) : Array Value := madeCells #[.slice none 0 0] n
theorem zer_at {n i : Nat} (h : i < n) : (zer n)[i]? = some (.int .i64 0) := by simp [zer, madeCells, h, Nat.mod_one]
theorem nils_at {n i : Nat} (h : i < n) : (nils n)[i]? = some (.slice none 0 0) := by simp [nils, madeCells, h, Nat.mod_one]

theorem make_ints {m : Nat} (hm : m < 1099511627776) (W : World) : (Instr.makeSlice 22 (.int .i64 ((m : Int) + 1)) (.int .i64 ((m : Int) + 1))).run Try.prog W = .ok (.slice (some ⟨W.heap.size, 0, none⟩) (m + 1) (m + 1)) (W.alloc (.cells (zer (m + 1)) 3)) := by
  obtain ⟨i0, hi, hz0, hz1, hz2⟩ := info_parts int_info
  have := run_make (P := Try.prog) W 22 3 i0 (.int .i64 0) Try.underlying22 hi hz0 .i64 .i64 ((m : Int) + 1) ((m : Int) + 1) (by omega) (by omega) (by rw [hz2]; omega) (by omega)
  rw [this, hz1, Nat.mul_one]
  rfl
theorem make_rows {m : Nat} (hm : m < 1099511627776) (W : World) : (Instr.makeSlice 49 (.int .i64 ((m : Int) + 1)) (.int .i64 ((m : Int) + 1))).run Try.prog W = .ok (.slice (some ⟨W.heap.size, 0, none⟩) (m + 1) (m + 1)) (W.alloc (.cells (nils (m + 1)) 22)) := by
  obtain ⟨i0, hi, hz0, hz1, hz2⟩ := info_parts slices_info
  have := run_make (P := Try.prog) W 49 22 i0 (.slice none 0 0) Try.underlying49 hi hz0 .i64 .i64 ((m : Int) + 1) ((m : Int) + 1) (by omega) (by omega) (by rw [hz2]; omega) (by omega)
  rw [this, hz1, Nat.mul_one]
  rfl

/-- After k rows: the outer block is S, row r is block S + 1 + r. -/
def Rows1 (w : World) (S n m k : Nat) : Prop :=
  w.heap.size = S + 1 + k ∧ (∀ r, r ≤ n → ∃ v, w.cell? ⟨S, r, none⟩ = some v ∧ w.frozen? ⟨S, r, none⟩ = false ∧ (r < k → v = .slice (some ⟨S + 1 + r, 0, none⟩) (m + 1) (m + 1))) ∧
  ∀ r c, r < k → c ≤ m → w.cell? ⟨S + 1 + r, c, none⟩ = some (.int .i64 0) ∧ w.frozen? ⟨S + 1 + r, c, none⟩ = false
theorem Rows1.start (w : World) (n m : Nat) : Rows1 (w.alloc (.cells (nils (n + 1)) 22)) w.heap.size n m 0 :=
  ⟨by simp, fun r hr => ⟨.slice none 0 0, by rw [World.cell?_alloc_at _ _ _ _ rfl]; exact nils_at (by omega), World.frozen?_alloc_at _ _ _ _ rfl, fun h => absurd h (by omega)⟩, fun r c h => absurd h (by omega)⟩
theorem Rows1.more {w : World} {S n m k : Nat} (h : Rows1 w S n m k) (hk : k ≤ n) :
    Rows1 ((w.alloc (.cells (zer (m + 1)) 3)).setCell ⟨S, k, none⟩ (.slice (some ⟨w.heap.size, 0, none⟩) (m + 1) (m + 1))) S n m (k + 1) := by
  obtain ⟨hs, h1, h2⟩ := h
  refine ⟨by simp only [World.setCell, Array.size_modify]; simp [hs]; omega, fun r hr => ?_, fun r c hr hc => ?_⟩
  · obtain ⟨v, hv, hf, hv'⟩ := h1 r hr
    rw [World.frozen?_setCell, World.frozen?_alloc_past _ _ _ (by omega)]
    by_cases e : r = k
    · subst e
      exact ⟨_, World.cell?_setCell_same _ _ _ (u := v) (by rw [World.cell?_alloc_past _ _ _ (by omega)]; exact hv), hf, fun _ => by rw [hs]⟩
    · refine ⟨v, ?_, hf, fun hh => hv' (by omega)⟩
      rw [World.cell?_setCell_other _ _ _ _ (by simp <;> omega), World.cell?_alloc_past _ _ _ (by omega)]; exact hv
  · rw [World.frozen?_setCell, World.cell?_setCell_other _ _ _ _ (by simp <;> omega)]
    by_cases e : r = k
    · subst e
      exact ⟨by rw [World.cell?_alloc_at _ _ _ _ hs.symm]; exact zer_at (by omega), World.frozen?_alloc_at _ _ _ _ hs.symm⟩
    · rw [World.cell?_alloc_past _ _ _ (by omega), World.frozen?_alloc_past _ _ _ (by omega)]
      exact h2 r c (by omega) hc

theorem Rows1.more' {w : World} {S n m k : Nat} (h : Rows1 w S n m k) (hk : k ≤ n) :
    Rows1 ((w.setCell ⟨S, k, none⟩ (.slice (some ⟨w.heap.size, 0, none⟩) (m + 1) (m + 1))).alloc (.cells (zer (m + 1)) 3)) S n m (k + 1) := by
  have := h.more hk
  rwa [World.setCell_alloc_past _ _ _ _ (by have := h.1; omega)] at this
/-- The table in memory: f gives the entries. -/
def Tab (w : World) (S n m : Nat) (f : Nat → Nat → Nat) : Prop :=
  (∀ r, r ≤ n → w.cell? ⟨S, r, none⟩ = some (.slice (some ⟨S + 1 + r, 0, none⟩) (m + 1) (m + 1))) ∧
  ∀ r c, r ≤ n → c ≤ m → w.cell? ⟨S + 1 + r, c, none⟩ = some (.int .i64 (f r c)) ∧ w.frozen? ⟨S + 1 + r, c, none⟩ = false
theorem Rows1.tab {w : World} {S n m : Nat} (h : Rows1 w S n m (n + 1)) : Tab w S n m (fun _ _ => 0) := by
  refine ⟨fun r hr => ?_, fun r c hr hc => h.2.2 r c (by omega) hc⟩
  obtain ⟨v, hv, _, hv'⟩ := h.2.1 r hr
  rw [hv, hv' (by omega)]
theorem Tab.set {w : World} {S n m : Nat} {f : Nat → Nat → Nat} (h : Tab w S n m f) {r c : Nat} (hr : r ≤ n) (hc : c ≤ m) (x : Nat) :
    Tab (w.setCell ⟨S + 1 + r, c, none⟩ (.int .i64 x)) S n m (fun r' c' => if r' = r ∧ c' = c then x else f r' c') := by
  refine ⟨fun r' hr' => ?_, fun r' c' hr' hc' => ?_⟩
  · rw [World.cell?_setCell_other _ _ _ _ (by simp <;> omega)]; exact h.1 r' hr'
  · rw [World.frozen?_setCell]
    refine ⟨?_, (h.2 r' c' hr' hc').2⟩
    by_cases e : r' = r ∧ c' = c
    · obtain ⟨rfl, rfl⟩ := e
      simpa using World.cell?_setCell_same _ _ _ (u := _) (h.2 r' c' hr' hc').1
    · rw [World.cell?_setCell_other _ _ _ _ (by simp <;> omega)]; simp only [if_neg e]; exact (h.2 r' c' hr' hc').1
theorem Tab.ext {w : World} {S n m : Nat} {f g : Nat → Nat → Nat} (h : Tab w S n m f) (hfg : ∀ r c, r ≤ n → c ≤ m → f r c = g r c) : Tab w S n m g :=
  ⟨h.1, fun r c hr hc => by rw [← hfg r c hr hc]; exact h.2 r c hr hc⟩
theorem Tab.drewN {w : World} {S n m : Nat} {f : Nat → Nat → Nat} (h : Tab w S n m f) (k : Nat) : Tab (w.drewN k) S n m f := h

/-- The entries that are reckoned when k rows and, of row k - 1, j columns are still to come. -/
def part (a b : List Int) (k j : Nat) (r c : Nat) : Nat := if k ≤ r ∨ (r + 1 = k ∧ j ≤ c) then tab a b r c else 0
theorem part_start (a b : List Int) (r c : Nat) (hr : r ≤ a.length) : part a b a.length b.length r c = 0 ∨ c > b.length := by
  unfold part
  split
  · rcases Nat.lt_or_ge b.length c with h | h
    · exact .inr h
    · left; apply tab_end; omega
  · exact .inl rfl

theorem part_end (a b : List Int) (r c : Nat) : part a b 0 0 r c = tab a b r c := by simp [part]
theorem part_next (a b : List Int) (k : Nat) (hk : k + 1 ≤ a.length) (r c : Nat) (hr : r ≤ a.length) (hc : c ≤ b.length) :
    part a b (k + 1) 0 r c = part a b k b.length r c := by
  unfold part
  by_cases h : k ≤ r
  · rw [if_pos (by omega), if_pos (by omega)]
  · by_cases h2 : r + 1 = k ∧ b.length ≤ c
    · rw [if_neg (by omega), if_pos (by omega), tab_end (by omega)]
    · rw [if_neg (by omega), if_neg (by omega)]
theorem part_set (a b : List Int) (k j : Nat) (r c : Nat) : part a b (k + 1) j r c = if r = k ∧ c = j then tab a b k j else part a b (k + 1) (j + 1) r c := by
  unfold part
  by_cases h : r = k ∧ c = j
  · obtain ⟨rfl, rfl⟩ := h; rw [if_pos (by omega), if_pos (by simp)]
  · rw [if_neg h]
    by_cases h2 : k + 1 ≤ r ∨ r + 1 = k + 1 ∧ j ≤ c
    · rw [if_pos h2, if_pos (by omega)]
    · rw [if_neg h2, if_neg (by omega)]

def zero2 : Nat → Nat → Nat := fun _ _ => 0
theorem setBelow {B : Nat} {a w : World} (h : Below B a w) {b o : Nat} (hb : B ≤ b) (u : Value) : Below B a (w.setCell ⟨b, o, none⟩ u) := h.setCell (p := ⟨b, o, none⟩) hb u

theorem tab_step_ne {wr : World} {S n m q p : Nat} {a b : List Int} (hn : a.length = n) (hm : b.length = m) (hT : Tab wr S n m (part a b (q + 1) (p + 1))) (hq : q < n) (hp : p < m) (x1 x2 x : Nat)
    (hx : x1 = part a b (q + 1) (p + 1) (q + 1) p ∧ x2 = part a b (q + 1) (p + 1) q (p + 1)) (he : ¬ gi a q = gi b p) (hmax : x = max x1 x2) (k : Nat) :
    Tab ((wr.setCell ⟨S + 1 + q, p, none⟩ (.int .i64 x)).drewN k) S n m (part a b (q + 1) p) := by
  refine ((hT.set (r := q) (c := p) (by omega) (by omega) x).drewN k).ext fun r c _ _ => ?_
  rw [part_set a b q p r c]
  by_cases e : r = q ∧ c = p
  · rw [if_pos e, if_pos e, tab_ne (by omega) (by omega) he, hmax, hx.1, hx.2]
    unfold part
    rw [if_pos (by omega), if_pos (by omega)]
  · rw [if_neg e, if_neg e]
theorem tab_step_eq {wr : World} {S n m q p : Nat} {a b : List Int} (hn : a.length = n) (hm : b.length = m) (hT : Tab wr S n m (part a b (q + 1) (p + 1))) (hq : q < n) (hp : p < m) (x x3 : Nat)
    (hx : x3 = part a b (q + 1) (p + 1) (q + 1) (p + 1)) (he : gi a q = gi b p) (k : Nat) :
    Tab (((wr.setCell ⟨S + 1 + q, p, none⟩ (.int .i64 x)).drewN k).setCell ⟨S + 1 + q, p, none⟩ (.int .i64 ((x3 : Int) + 1))) S n m (part a b (q + 1) p) := by
  have e3 : (x3 : Int) + 1 = ((x3 + 1 : Nat) : Int) := by omega
  rw [e3]
  refine (((hT.set (r := q) (c := p) (by omega) (by omega) x).drewN k).set (r := q) (c := p) (by omega) (by omega) (x3 + 1)).ext fun r c _ _ => ?_
  rw [part_set a b q p r c]
  by_cases e : r = q ∧ c = p
  · rw [if_pos e, if_pos e, tab_eq (by omega) (by omega) he, hx]
    unfold part
    rw [if_pos (by omega)]
  · rw [if_neg e, if_neg e, if_neg e]
theorem drewBelow {B : Nat} {a w : World} (h : Below B a w) (k : Nat) : Below B a (w.drewN k) := ⟨h.os, h.tape, h.output, h.size, h.block⟩
theorem setSize {w : World} {a : Addr} {v : Value} : (w.setCell a v).heap.size = w.heap.size := by simp [World.setCell]

theorem Tab.below {w w' : World} {S n m B : Nat} {f : Nat → Nat → Nat} (h : Tab w S n m f) (hb : Below B w w') (hB : S + 1 + n < B) : Tab w' S n m f :=
  ⟨fun r hr => (hb.cell (p := ⟨S, r, none⟩) (by simp; omega)).trans (h.1 r hr), fun r c hr hc =>
    ⟨(hb.cell (p := ⟨S + 1 + r, c, none⟩) (by simp; omega)).trans (h.2 r c hr hc).1, (hb.frozen (p := ⟨S + 1 + r, c, none⟩) (by simp; omega)).trans (h.2 r c hr hc).2⟩⟩

/-- A region that draws: reads ahead of one forced tail; the world named by its draw. -/
theorem wp_region_tail {P : Program} {id : Nat} {Q : Exit → Act → World → Prop} {a : Act} {w : World} {l : List Oper} (n : Nat) (hm : P.follows .mixedOrders = true) (hB : Region.lexTailB .any l.toArray n = true)
    (h : wpStill P l.toArray w.drew (fun a' => wpList P l.toArray Q (l.drop n) a' w.drew) (l.take n) a) : (Code.region id l.toArray true).wp P Q a w := wp_region_still_tail n hm hB h

set_option maxHeartbeats 1000000 in
theorem lengths_any (A B : Option Addr) (n m c d : Nat) (a b : List Int) (w : World) (ha : Ints w w.heap.size A n a) (hb : Ints w w.heap.size B m b) (hn : n ≤ 1024) (hm : m ≤ 1024) :
    Calls Try.prog 34 #[.slice A n c, .slice B m d] w fun e w' => e = .returned (.slice (some ⟨w.heap.size, 0, none⟩) (n + 1) (n + 1)) ∧ w.heap.size + 1 + n < w'.heap.size ∧ Tab w' w.heap.size n m (tab a b) ∧ Below w.heap.size w w' := by
  have HN := Lib.hid ha.len
  have HM := Lib.hid hb.len
  have hmi := fun W => make_ints (m := m) (by omega) W
  have hmr := fun W => make_rows (m := n) (by omega) W
  go_enter Try.func34, Try.ntmps34
  go_wp2
  go_loopw [6] (fun i wr => ∃ k : Nat, k ≤ n + 1 ∧ i = .int .i64 k ∧ Hid (Rows1 wr w.heap.size n m k) ∧ Below w.heap.size w wr) (fun i _ => n + 1 - (intOf i).toNat)
  case atStart => exact ⟨0, by omega, rfl, Lib.hid (Rows1.start w n m), (Below.refl _ _).alloc (Nat.le_refl _) _⟩
  case round =>
    obtain ⟨k, hk, rfl, hrow, hbel⟩ := hrel
    by_cases hlt : k < n + 1
    · have hsz := hrow.out.1
      obtain ⟨v0, hc0, hf0, _⟩ := hrow.out.2.1 k (by omega)
      have hlt2 : w.heap.size < wr.heap.size := by omega
      clear hsz
      have hf0' : (wr.alloc (.cells (zer (m + 1)) 3)).frozen? ⟨w.heap.size, k, none⟩ = false := by rw [World.frozen?_alloc_past _ _ _ hlt2]; exact hf0
      have hc0' : (wr.alloc (.cells (zer (m + 1)) 3)).cell? ⟨w.heap.size, k, none⟩ = some v0 := by rw [World.cell?_alloc_past _ _ _ hlt2]; exact hc0
      clear hf0 hc0
      go_wp2
      go_roundw
      case rel => exact ⟨k + 1, by omega, by go_num, Lib.hid (hrow.out.more' (by omega)), (setBelow hbel (Nat.le_refl _) _).alloc (by simp only [World.setCell, Array.size_modify]; exact hbel.size) _⟩
      case measure => simp [intOf] <;> omega
    · obtain rfl : k = n + 1 := by omega
      have hT0 := Lib.hid (hrow.out.tab.ext (g := part a b n m) (fun r c hr hc => by
        rcases part_start a b r c (by rw [HN.out]; exact hr) with h | h
        · rw [HN.out, HM.out] at h; exact h.symm
        · rw [HM.out] at h; omega))
      have hlt2 : w.heap.size + 1 + n < wr.heap.size := by have := hrow.out.1; omega
      clear hrow
      have hd : decide ((n : Int) + 1 ≤ n) = false := by simp; omega
      rw [show ((n + 1 : Nat) : Int) = (n : Int) + 1 from by omega]
      go_wp2
      go_loopw [7, 8] (fun i _ wq => ∃ k : Nat, k ≤ n ∧ i = .int .i64 ((k : Int) - 1) ∧ Hid (Tab wq w.heap.size n m (part a b k m)) ∧ w.heap.size + 1 + n < wq.heap.size ∧ Below w.heap.size w wq) (fun i _ _ => (intOf i + 1).toNat)
      case atStart => exact ⟨n, Nat.le_refl _, rfl, hT0, hlt2, hbel⟩
      case round =>
        clear hbel hT0 hlt2
        obtain ⟨k, hk, rfl, hT, hlt2, hbel⟩ := hrel
        by_cases hk0 : k = 0
        · subst hk0
          have HT := Lib.hid (hT.out.ext (g := tab a b) fun r c hr hc => by
            unfold part
            rw [if_pos (by omega)])
          clear hT
          go_wp2
          go_ret
          exact ⟨rfl, hlt2, HT.out, hbel⟩
        · obtain ⟨q, rfl⟩ : ∃ q, k = q + 1 := ⟨k - 1, by omega⟩
          have e1 : ((q + 1 : Nat) : Int) - 1 = q := by omega
          rw [e1]
          clear hk0 e1
          go_wp2
          go_loopw [8] (fun j wi => ∃ k : Nat, k ≤ m ∧ j = .int .i64 ((k : Int) - 1) ∧ Hid (Tab wi w.heap.size n m (part a b (q + 1) k)) ∧ w.heap.size + 1 + n < wi.heap.size ∧ Below w.heap.size w wi) (fun j _ => (intOf j + 1).toNat)
          case atStart => exact ⟨m, Nat.le_refl _, rfl, hT, hlt2, hbel⟩
          case round =>
            clear hbel hT hlt2
            obtain ⟨k, hkm, rfl, hT, hlt2, hbel⟩ := hrel
            by_cases hk0 : k = 0
            · subst hk0
              have HT := Lib.hid (hT.out.ext fun r c hr hc => part_next a b q (by rw [HN.out]; omega) r c (by rw [HN.out]; exact hr) (by rw [HM.out]; exact hc))
              rw [HM.out] at HT
              clear hT
              go_wp2
              go_roundw
              case rel => exact ⟨q, by omega, rfl, HT, hlt2, hbel⟩
              case measure => simp [intOf] <;> omega
            · obtain ⟨p, rfl⟩ : ∃ p, k = p + 1 := ⟨k - 1, by omega⟩
              have e1 : ((p + 1 : Nat) : Int) - 1 = p := by omega
              rw [e1]
              clear hk0 e1
              have h0 := hT.out.1 q (by omega)
              have h1 := hT.out.1 (q + 1) (by omega)
              obtain ⟨h2, _⟩ := hT.out.2 (q + 1) p (by omega) (by omega)
              obtain ⟨h3, _⟩ := hT.out.2 q (p + 1) (by omega) (by omega)
              obtain ⟨h4, hf4⟩ := hT.out.2 q p (by omega) (by omega)
              obtain ⟨x1, hx1⟩ : ∃ x, x = part a b (q + 1) (p + 1) (q + 1) p := ⟨_, rfl⟩
              obtain ⟨x2, hx2⟩ : ∃ x, x = part a b (q + 1) (p + 1) q (p + 1) := ⟨_, rfl⟩
              rw [← hx1] at h2
              rw [← hx2] at h3
              have HX := Lib.hid (And.intro hx1 hx2)
              have b1 : (q : Int) < (n : Int) + 1 := by omega
              have b2 : (q : Int) + 1 < (n : Int) + 1 := by omega
              have b3 : (p : Int) < (m : Int) + 1 := by omega
              have b4 : (p : Int) + 1 < (m : Int) + 1 := by omega
              clear hx1 hx2
              obtain ⟨ad, rfl, hba, hca⟩ := ha.at_ (k := q) (by omega)
              obtain ⟨bd, rfl, hbb, hcb⟩ := hb.at_ (k := p) (by omega)
              have hqa : ∀ v, (wr.setCell ⟨w.heap.size + 1 + q, p, none⟩ v).cell? (ad.add q) = some (.int .i64 (gi a q)) := fun v => by
                rw [World.cell?_setCell_other _ _ _ _ (by intro e; have := congrArg Addr.block e; rw [add_block] at this; simp at this; omega)]
                exact (hbel.cell (p := ad.add q) (by rw [add_block]; exact hba)).trans hca
              have hqb : ∀ v, (wr.setCell ⟨w.heap.size + 1 + q, p, none⟩ v).cell? (bd.add p) = some (.int .i64 (gi b p)) := fun v => by
                rw [World.cell?_setCell_other _ _ _ _ (by intro e; have := congrArg Addr.block e; rw [add_block] at this; simp at this; omega)]
                exact (hbel.cell (p := bd.add p) (by rw [add_block]; exact hbb)).trans hcb
              clear hca hcb
              obtain ⟨h5, _⟩ := hT.out.2 (q + 1) (p + 1) (by omega) (by omega)
              obtain ⟨x3, hx3⟩ : ∃ x, x = part a b (q + 1) (p + 1) (q + 1) (p + 1) := ⟨_, rfl⟩
              rw [← hx3] at h5
              have HX3 := Lib.hid hx3
              clear hx3
              have h50 : x3 ≤ 1024 := by
                have := HX3.out; rw [this]; unfold part; split
                · have := tab_le a b (q + 1) (p + 1); have := HN.out; omega
                · omega
              have g0 : ∀ v, (wr.setCell ⟨w.heap.size + 1 + q, p, none⟩ v).cell? ⟨w.heap.size, q, none⟩ = some (.slice (some ⟨w.heap.size + 1 + q, 0, none⟩) (m + 1) (m + 1)) := fun v => by
                rw [World.cell?_setCell_other _ _ _ _ (by simp <;> omega)]; exact h0
              have g1 : ∀ v, (wr.setCell ⟨w.heap.size + 1 + q, p, none⟩ v).cell? ⟨w.heap.size, q + 1, none⟩ = some (.slice (some ⟨w.heap.size + 1 + (q + 1), 0, none⟩) (m + 1) (m + 1)) := fun v => by
                rw [World.cell?_setCell_other _ _ _ _ (by simp <;> omega)]; exact h1
              have g5 : ∀ v, (wr.setCell ⟨w.heap.size + 1 + q, p, none⟩ v).cell? ⟨w.heap.size + 1 + (q + 1), p + 1, none⟩ = some (.int .i64 x3) := fun v => by
                rw [World.cell?_setCell_other _ _ _ _ (by simp)]; exact h5
              have g4 : ∀ v, (wr.setCell ⟨w.heap.size + 1 + q, p, none⟩ v).cell? ⟨w.heap.size + 1 + q, p, none⟩ = some v := fun v => World.cell?_setCell_same _ _ _ h4
              clear h5
              by_cases hx : x1 < x2
              all_goals
                go_wp2
                have z1 : 0 ≤ (q : Int) + 1 := by omega
                have z2 : 0 ≤ (p : Int) + 1 := by omega
                have t1 : ((q : Int) + 1).toNat = q + 1 := by omega
                have t2 : ((p : Int) + 1).toNat = p + 1 := by omega
                have w1 : IntKind.i64.wrap ((q : Int) + 1) = q + 1 := IntWalk.i64_in _ (by omega)
                have w2 : IntKind.i64.wrap ((p : Int) + 1) = p + 1 := IntWalk.i64_in _ (by omega)
                (refine wp_region_tail 23 (by kernel_rfl) (by kernel_rfl) ?_; simp only [List.take_succ_cons, List.take_zero, List.drop_succ_cons, List.drop_zero]; repeat still_step); refine wpStill_nil ?_
                clear w1 w2 z1 z2 t1 t2
                by_cases he : gi a q = gi b p
                · have HE := Lib.hid he
                  have hne : (gi a q == gi b p) = true := by simpa using he
                  clear he
                  go_wp2
                  go_quiet (fail)
                  go_wp2
                  have z1 : 0 ≤ (q : Int) + 1 := by omega
                  have z2 : 0 ≤ (p : Int) + 1 := by omega
                  have t1 : ((q : Int) + 1).toNat = q + 1 := by omega
                  have t2 : ((p : Int) + 1).toNat = p + 1 := by omega
                  have w1 : IntKind.i64.wrap ((q : Int) + 1) = q + 1 := IntWalk.i64_in _ (by omega)
                  have w2 : IntKind.i64.wrap ((p : Int) + 1) = p + 1 := IntWalk.i64_in _ (by omega)
                  have w3 : IntKind.i64.wrap ((x3 : Int) + 1) = x3 + 1 := IntWalk.i64_in _ (by omega)
                  (refine wp_region_tail 16 (by kernel_rfl) (by kernel_rfl) ?_; simp only [List.take_succ_cons, List.take_zero, List.drop_succ_cons, List.drop_zero]; repeat still_step); refine wpStill_nil ?_
                  clear w1 w2 z1 z2 t1 t2 w3
                  go_wp2
                  go_roundw
                  case rel => exact ⟨p, by omega, rfl, Lib.hid (tab_step_eq HN.out HM.out hT.out (by omega) (by omega) _ x3 HX3.out HE.out _), by rw [setSize]; show _ < (World.setCell _ _ _).heap.size; rw [setSize]; exact hlt2, setBelow (drewBelow (setBelow hbel (by omega) _) _) (by omega) _⟩
                  case measure => simp [intOf] <;> omega
                · have HE := Lib.hid he
                  have hne : (gi a q == gi b p) = false := by simpa using he
                  clear he
                  go_wp2
                  go_quiet (fail)
                  go_wp2
                  go_roundw
                  case rel => exact ⟨p, by omega, rfl, Lib.hid (tab_step_ne HN.out HM.out hT.out (by omega) (by omega) x1 x2 _ HX.out HE.out (by omega) _), by show _ < (World.setCell _ _ _).heap.size; rw [setSize]; exact hlt2, drewBelow (setBelow hbel (by omega) _) _⟩
                  case measure => simp [intOf] <;> omega
end Go.Proofs.Ytfnbchbndmbjaaa
