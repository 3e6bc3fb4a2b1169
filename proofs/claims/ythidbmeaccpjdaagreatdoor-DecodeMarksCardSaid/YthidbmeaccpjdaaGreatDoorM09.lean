/- Rows of [2]int in memory: read, owned, grown by one or by a row (printed by gen_row. Layer 13, plain: encoded words, decoded. Layer 6, plain: base64 and quoted-printable, encoded; what is encoded is read back. A part's own words in memory: one struct, its params a slice. Layer 15, plain: a part's bytes, text and name; tags and entities. -/
import Derived.Test.YthidbmeaccpjdaaGreatDoorM07
import Derived.Test.YthidbmeaccpjdaaGreatDoorM01
import Derived.Test.YthidbmeaccpjdaaGreatDoorM08
section
namespace Go.Proofs.YthidbmeaccpjdaaGreatDoor
open Go.RowKit
set_option linter.unusedVariables false
theorem pr_info : (Tryz.prog.info? 53).map (fun i => (i.zero, i.size, i.bytes)) = some (some (.agg #[.int .i64 0, .int .i64 0]), 2, 16) := by kernel_rfl
def prCells (t : (Int × Int)) : List Value := [.int .i64 (t.1), .int .i64 (t.2)]
def PrOk (t : (Int × Int)) : Prop := (-9223372036854775808 ≤ t.1 ∧ t.1 ≤ 9223372036854775807) ∧ (-9223372036854775808 ≤ t.2 ∧ t.2 ≤ 9223372036854775807)
def Prs (w : World) (B : Nat) (A : Option Addr) (n : Nat) (ts : List ((Int × Int))) : Prop :=
 n = ts.length ∧ ∀ k (hk : k < ts.length), ∃ ad, A = some ad ∧ (ad.add (k * 2)).block < B ∧ w.cell? (ad.add (k * 2)) = some (.int .i64 (ts[k].1)) ∧ w.cell? ⟨(ad.add (k * 2)).block, (ad.add (k * 2)).off + 1, none⟩ = some (.int .i64 (ts[k].2)) ∧ PrOk ts[k]
section
variable {w w' : World} {B B' n : Nat} {A : Option Addr} {ts : List ((Int × Int))}
theorem Prs.below (h : Prs w B A n ts) (hb : Below B w w') : Prs w' B A n ts := by
 refine ⟨h.1, fun k hk => ?_⟩
 obtain ⟨ad, e, h1, c0, c1, h5⟩ := h.2 k hk
 exact ⟨ad, e, h1, (hb.cell h1).trans c0, (hb.cell (p := ⟨(ad.add (k * 2)).block, _, none⟩) h1).trans c1, h5⟩
theorem Prs.more (h : Prs w B A n ts) (hB : B ≤ B') : Prs w B' A n ts := by
 refine ⟨h.1, fun k hk => ?_⟩
 obtain ⟨ad, e, h1, h2⟩ := h.2 k hk
 exact ⟨ad, e, Nat.lt_of_lt_of_le h1 hB, h2⟩
theorem Prs.nil_ : Prs w B A 0 [] := ⟨rfl, fun k hk => by simp at hk⟩
theorem Prs.len (h : Prs w B A n ts) : ts.length = n := h.1.symm
theorem Prs.cutB {ad : Addr} (h : Prs w B (some ad) n ts) (k : Nat) (hk : k ≤ n) : Prs w B (some (ad.add (k * 2))) (n - k) (ts.drop k) := by
 refine ⟨by rw [List.length_drop, h.len], fun j hj => ?_⟩
 rw [List.length_drop] at hj
 obtain ⟨ad', e, r⟩ := h.2 (k + j) (by omega)
 injection e with e
 subst e
 refine ⟨_, rfl, ?_⟩
 rw [add_add', show k * 2 + j * 2 = (k + j) * 2 by omega, List.getElem_drop]
 exact r
end
structure OwnPrs (w : World) (B : Nat) (v : Value) (ts : List ((Int × Int))) : Prop where
 row : w.ownsRow B 53 2 v ts.length (ts.flatMap prCells)
 each : ∀ t, t ∈ ts → PrOk t
theorem OwnPrs.nil_ (w : World) (B : Nat) : OwnPrs w B (.slice none 0 0) [] := ⟨World.ownsRow_nil _ _ _ _, fun t h => by cases h⟩
theorem OwnPrs.below {w w' : World} {B : Nat} {v : Value} {ts : List ((Int × Int))} (h : OwnPrs w B v ts) (hb : Below w.heap.size w w') : OwnPrs w' B v ts :=
 ⟨ownsRow_block h.row fun b e => hb.block b (h.row.lt b e).2, h.each⟩
theorem OwnPrs.block {w w' : World} {B : Nat} {v : Value} {ts : List ((Int × Int))} (h : OwnPrs w B v ts) (hb : ∀ b, v.ownBlock = some b → w'.heap[b]? = w.heap[b]?) : OwnPrs w' B v ts := ⟨ownsRow_block h.row hb, h.each⟩
theorem OwnPrs.more {w : World} {B B' : Nat} {v : Value} {ts : List ((Int × Int))} (h : OwnPrs w B v ts) (hB : B' ≤ B) : OwnPrs w B' v ts := by
 obtain ⟨⟨h0, h1⟩, h2⟩ := h
 refine ⟨⟨h0, ?_⟩, h2⟩
 rcases h1 with h1 | ⟨g, cap, cur, e, hb, r⟩
 ·exact .inl h1
 ·exact .inr ⟨g, cap, cur, e, by omega, r⟩
theorem pr_len (ts : List ((Int × Int))) : (ts.flatMap prCells).length = ts.length * 2 := by induction ts with | nil => rfl | cons a r ih => simp [prCells] at ih ⊢; omega
theorem pr_get : ∀ (ts : List ((Int × Int))) j (hj : j < ts.length) i (hi : i < 2), (ts.flatMap prCells)[j * 2 + i]? = (prCells ts[j])[i]? := fun ts => by
 induction ts with
 | nil => intro j hj; simp at hj
 | cons a r ih =>
  intro j hj i hi
  cases j with
  | zero =>
   simp only [List.flatMap_cons, List.getElem_cons_zero, Nat.zero_mul, Nat.zero_add]
   rw [List.getElem?_append_left (by simp [prCells]; omega)]
  | succ j =>
   have := ih j (by simpa using hj) i hi
   simp only [List.flatMap_cons, List.getElem_cons_succ]
   rw [List.getElem?_append_right (by simp [prCells]; omega), show (j + 1) * 2 + i - (prCells a).length = j * 2 + i by simp [prCells]; omega]
   exact this
theorem pr_addS (a : Addr) {i : Nat} (hi : i ≠ 0) : a.add i = ⟨a.block, a.off + i, none⟩ := by unfold Addr.add; rw [if_neg hi]
theorem OwnPrs.reads {w : World} {B : Nat} {v : Value} {ts : List ((Int × Int))} (h : OwnPrs w B v ts) : ∃ A c, v = .slice A ts.length c ∧ ts.length ≤ c ∧ c ≤ maxLen ∧ Prs w w.heap.size A ts.length ts := by
 have h0 := h.row
 rcases h0.2 with ⟨rfl, hn⟩ | ⟨g, cap, cur, rfl, hb, hg, q1, q2, q3⟩
 ·have : ts = [] := List.eq_nil_of_length_eq_zero hn
  subst this
  exact ⟨none, 0, rfl, Nat.le_refl _, by simp, Prs.nil_⟩
 ·refine ⟨_, cap, rfl, q1, q2, rfl, fun k hk => ?_⟩
  have hc : ∀ i u, i < 2 → (prCells ts[k])[i]? = some u → w.cell? ⟨g, k * 2 + i, none⟩ = some u := fun i u hi hu => by
   have := h0.cells (g := g) rfl (k * 2 + i) u (by rw [pr_get ts k hk i hi]; exact hu)
   unfold Addr.add at this
   by_cases e0 : k * 2 + i = 0
   ·rw [if_pos e0] at this; rw [e0]; exact this
   ·rw [if_neg e0] at this; rw [Nat.zero_add] at this; exact this
  have e1 : (Addr.add ⟨g, 0, none⟩ (k * 2)) = ⟨g, k * 2, none⟩ := by
   unfold Addr.add
   split
   ·rename_i e0; rw [e0]
   ·rw [Nat.zero_add]
  refine ⟨⟨g, 0, none⟩, rfl, by rw [add_block]; exact heap_lt hg, ?_, ?_, h.each _ (List.getElem_mem hk)⟩
  ·rw [e1]; exact hc 0 _ (by omega) rfl
  ·rw [e1]; exact hc 1 _ (by omega) rfl
theorem pr_one (l : List ((Int × Int))) : ∀ u ∈ l.flatMap prCells, u.oneCell' = true := by
 intro u hu
 obtain ⟨t, _, ht⟩ := List.mem_flatMap.1 hu
 simp only [prCells, List.mem_cons, List.not_mem_nil, or_false] at ht
 rcases ht with rfl | rfl <;> rfl
set_option maxRecDepth 100000 in
theorem run_pushPr {W : World} {B : Nat} {v : Value} {ts : List ((Int × Int))} {x0 : Int} {x1 : Int} (hT : OwnPrs W B v ts) (hB : B ≤ W.heap.size) (hf : PrOk (⟨x0, x1⟩ : (Int × Int))) (hlen : ts.length ≤ 1000000000) (c : Nat) (ty : TypeId) :
  ∃ v' w', (Builtin.append_ #[51, 51] ty #[v, .slice (some ⟨W.heap.size, 0, none⟩) 1 c]).run Tryz.prog (W.alloc (.cells #[.int .i64 x0, .int .i64 x1] 53)) = .ok v' w' ∧ OwnPrs w' B v' (ts ++ [(⟨x0, x1⟩ : (Int × Int))]) ∧ W.grownBy w' v.ownBlock := by
 obtain ⟨i0, hi, hz0, hz1, hz2⟩ := info_parts pr_info
 obtain ⟨v', w', hrun, h1, h2, _, h4⟩ := run_append_own_at (P := Tryz.prog) (W.alloc (.cells #[.int .i64 x0, .int .i64 x1] 53)) B 51 ty 53 i0 _ 2 16 Tryz.underlying51 hi hz0 hz1 hz2 rfl (by omega) v ts.length (ts.flatMap prCells) (World.ownsRow.alloc hT.row _) ⟨W.heap.size, 0, none⟩ 1 c (prCells (⟨x0, x1⟩ : (Int × Int))) rfl (World.news_of_block (MapKept.heap_alloc W _).1) (fun u hu => pr_one [(⟨x0, x1⟩ : (Int × Int))] u (by simpa using hu)) (by simp only [maxLen]; omega) (by omega) (by simp; omega)
 have h5 := World.grownBy_alloc W (.cells #[.int .i64 x0, .int .i64 x1] 53) v.ownBlock
 refine ⟨v', w', hrun, ⟨by simpa using h1, fun t ht => ?_⟩, ⟨h2.os.trans h5.os, h2.tape.trans h5.tape, h2.output.trans h5.output, Nat.le_trans h5.size h2.size, fun k hk hne => (h2.block k (by simp; omega) hne).trans (h5.block k hk hne)⟩⟩
 rcases List.mem_append.1 ht with ht | ht
 ·exact hT.each t ht
 ·rw [List.mem_singleton] at ht; subst ht; exact hf
theorem Prs.cells {w : World} {B m : Nat} {ad : Addr} {l : List ((Int × Int))} (h : Prs w B (some ad) m l) : ∀ j u, (l.flatMap prCells)[j]? = some u → w.cell? (ad.add j) = some u := by
 intro j u hu
 have hj : j < l.length * 2 := by have := (List.getElem?_eq_some_iff.1 hu).1; rw [pr_len] at this; exact this
 obtain ⟨k, i, hi, rfl⟩ : ∃ k i, i < 2 ∧ j = k * 2 + i := ⟨j / 2, j % 2, by omega, by omega⟩
 have hk : k < l.length := by omega
 rw [pr_get l k hk i hi] at hu
 obtain ⟨ad', e, _, c0, c1, _⟩ := h.2 k hk
 injection e with e
 subst e
 rw [← add_add']
 match i, hi with
 | 0, _ =>
  have hu' : Value.int .i64 (l[k].1) = u := Option.some.inj hu
  subst hu'
  have e0 : (ad.add (k * 2)).add 0 = ad.add (k * 2) := by unfold Addr.add; rfl
  rw [e0]; exact c0
 | 1, _ =>
  have hu' : Value.int .i64 (l[k].2) = u := Option.some.inj hu
  subst hu'
  rw [pr_addS _ (by decide)]; exact c1
end Go.Proofs.YthidbmeaccpjdaaGreatDoor
end
namespace Go.Proofs.YthidbmeaccpjdaaGreatDoor
open Go.RowKit
set_option linter.unusedVariables false
set_option maxHeartbeats 4000000
def seenW (c : UInt8) : Bool := decide (32 < c ∧ c < 127)
def wordBy (h x : List UInt8) : Option (List UInt8) := if h = [66] ∨ h = [98] then some (unb64P x) else if h = [81] ∨ h = [113] then some (unqQ x) else none
def encW (s : List UInt8) : Option (List UInt8 × Nat) :=
 match s with
 | x :: y :: rest => if x = 61 ∧ y = 63 then (match cutP 63 rest with
  | none => none
  | some (a, r1) => match cutP 63 r1 with
   | none => none
   | some (b, r2) => match cutP 63 r2 with
    | none => none
    | some (c, d) => if a = [] ∨ b.length ≠ 1 ∨ d.head? ≠ some 61 ∨ (61 : UInt8) ∈ a ∨ (s.take (a.length + c.length + 7)).all seenW = false then none
     else (wordBy b c).map fun t => (decodeSet a t, a.length + c.length + 7)) else none
 | _ => none
theorem encW_pos {s t : List UInt8} {n : Nat} (h : encW s = some (t, n)) : 0 < n ∧ n ≤ s.length := by
 unfold encW at h
 split at h
 ·rename_i x y rest
  split at h
  ·cases h1 : cutP 63 rest with
   | none => rw [h1] at h; cases h
   | some q =>
    obtain ⟨a, r1⟩ := q
    rw [h1] at h
    dsimp only at h
    cases h2 : cutP 63 r1 with
    | none => rw [h2] at h; cases h
    | some q =>
     obtain ⟨b, r2⟩ := q
     rw [h2] at h
     dsimp only at h
     cases h3 : cutP 63 r2 with
     | none => rw [h3] at h; cases h
     | some q =>
      obtain ⟨c, d⟩ := q
      rw [h3] at h
      dsimp only at h
      split at h
      ·cases h
      ·rename_i hn
       cases h4 : wordBy b c with
       | none => rw [h4] at h; cases h
       | some v =>
        rw [h4] at h
        injection h with h
        injection h with h5 h6
        have e1 := congrArg List.length (cutP_some h1).1
        have e2 := congrArg List.length (cutP_some h2).1
        have e3 := congrArg List.length (cutP_some h3).1
        simp only [List.length_append, List.length_cons] at e1 e2 e3
        simp only [not_or] at hn
        have e4 : b.length = 1 := Decidable.not_not.1 hn.2.1
        have e5 : d ≠ [] := by
         rintro rfl
         exact hn.2.2.1 (by simp)
        have e6 : 0 < d.length := List.length_pos_iff.2 e5
        subst h6
        simp only [List.length_cons]
        omega
  ·cases h
 ·cases h
def gapP (r : List UInt8) : List UInt8 := if (encW (r.dropWhile blankB)).isSome = true then r.dropWhile blankB else r
def wordsF : Nat → List UInt8 → List UInt8
 | 0, _ => []
 | _ + 1, [] => []
 | f + 1, c :: r => match encW (c :: r) with
  | none => c :: wordsF f r
  | some (t, n) => t ++ wordsF f (gapP ((c :: r).drop n))
def wordsP (s : List UInt8) : List UInt8 := repairP (wordsF s.length s)
def triV (a b c : UInt8) : Nat := a.toNat * 65536 + b.toNat * 256 + c.toNat
def quadP (v : Nat) : List UInt8 := [b64C (v / 262144 % 64), b64C (v / 4096 % 64), b64C (v / 64 % 64), b64C (v % 64)]
def b64Q : List UInt8 → List UInt8
 | [] => []
 | [a] => (quadP (triV a 0 0)).take 2 ++ [61, 61]
 | [a, b] => (quadP (triV a b 0)).take 3 ++ [61]
 | a :: b :: c :: r => quadP (triV a b c) ++ b64Q r
def wrapP : Nat → List UInt8 → List UInt8
 | n, [] => if n % 76 ≠ 0 then [13, 10] else []
 | n, c :: r => c :: ((if (n + 1) % 76 = 0 then [13, 10] else []) ++ wrapP (n + 1) r)
def b64P (l : List UInt8) : List UInt8 := wrapP 0 (b64Q l)
def b64G : Nat → Nat → List UInt8 → List UInt8
 | v, k, [] => b64E v k
 | v, k, c :: r => if c = 61 then b64E v k else if b64V c = 0 then b64G v k r else if k = 3 then [UInt8.ofNat ((v * 64 + (b64V c - 1)) / 65536), UInt8.ofNat ((v * 64 + (b64V c - 1)) / 256), UInt8.ofNat (v * 64 + (b64V c - 1))] ++ b64G 0 0 r else b64G (v * 64 + (b64V c - 1)) (k + 1) r
theorem b64G_none : ∀ (l : List UInt8) (v k : Nat), (61 : UInt8) ∉ l → b64G v k l = b64F v k l
 | [], v, k, _ => rfl
 | c :: r, v, k, h => by
  have h1 : c ≠ 61 := fun e => h (by simp [e])
  have h2 : (61 : UInt8) ∉ r := fun e => h (List.mem_cons_of_mem _ e)
  unfold b64G b64F
  rw [if_neg h1, b64G_none r v k h2, b64G_none r 0 0 h2, b64G_none r _ (k + 1) h2]
theorem b64G_cut : ∀ (a b : List UInt8) (v k : Nat), (61 : UInt8) ∉ a → b64G v k (a ++ 61 :: b) = b64F v k a
 | [], b, v, k, _ => by
  show (if (61 : UInt8) = 61 then _ else _) = _
  rw [if_pos rfl]
  rfl
 | c :: r, b, v, k, h => by
  have h1 : c ≠ 61 := fun e => h (by simp [e])
  have h2 : (61 : UInt8) ∉ r := fun e => h (List.mem_cons_of_mem _ e)
  rw [List.cons_append]
  unfold b64G b64F
  rw [if_neg h1, b64G_cut r b v k h2, b64G_cut r b 0 0 h2, b64G_cut r b _ (k + 1) h2]
theorem unb64_G (l : List UInt8) : unb64P l = b64G 0 0 l := by
 unfold unb64P
 cases h : cutP 61 l with
 | none => exact (b64G_none l 0 0 (cutP_none.1 h)).symm
 | some q =>
  obtain ⟨a, b⟩ := q
  have h1 := cutP_some h
  rw [h1.1]
  exact (b64G_cut a b 0 0 h1.2).symm
theorem b64G_end (n v k : Nat) : b64G v k (if n % 76 ≠ 0 then [13, 10] else []) = b64E v k := by
 split <;> rfl
theorem b64G_wrap : ∀ (l : List UInt8) (n v k : Nat), b64G v k (wrapP n l) = b64G v k l
 | [], n, v, k => b64G_end n v k
 | c :: r, n, v, k => by
  have ih : ∀ v k, b64G v k ((if (n + 1) % 76 = 0 then [13, 10] else []) ++ wrapP (n + 1) r) = b64G v k r := by
   intro v k
   split
   ·show b64G v k (wrapP (n + 1) r) = _
    exact b64G_wrap r (n + 1) v k
   ·exact b64G_wrap r (n + 1) v k
  show b64G v k (c :: _) = b64G v k (c :: r)
  unfold b64G
  rw [ih, ih, ih]
theorem b64G_digit {n : Nat} (hn : n < 64) (v k : Nat) (r : List UInt8) : b64G v k (b64C n :: r) = if k = 3 then [UInt8.ofNat ((v * 64 + n) / 65536), UInt8.ofNat ((v * 64 + n) / 256), UInt8.ofNat (v * 64 + n)] ++ b64G 0 0 r else b64G (v * 64 + n) (k + 1) r := by
 have h := b64V_C ⟨n, hn⟩
 dsimp only at h
 conv => lhs; unfold b64G
 rw [if_neg h.2, h.1, if_neg (by omega), Nat.add_sub_cancel]
theorem u8_nat {n : Nat} {c : UInt8} (h : n % 256 = c.toNat) : UInt8.ofNat n = c := by
 apply UInt8.toNat_inj.1
 rw [UInt8.toNat_ofNat']
 exact h
theorem b64G_quad (a b c : UInt8) (r : List UInt8) : b64G 0 0 (quadP (triV a b c) ++ r) = [a, b, c] ++ b64G 0 0 r := by
 have ha := a.toNat_lt
 have hb := b.toNat_lt
 have hc := c.toNat_lt
 unfold quadP triV
 simp only [List.cons_append, List.nil_append]
 rw [b64G_digit (by omega), if_neg (by omega), b64G_digit (by omega), if_neg (by omega), b64G_digit (by omega), if_neg (by omega), b64G_digit (by omega), if_pos rfl]
 rw [u8_nat (c := a) (by omega), u8_nat (c := b) (by omega), u8_nat (c := c) (by omega)]
 rfl
theorem b64G_eq (v k : Nat) (r : List UInt8) : b64G v k (61 :: r) = b64E v k := by
 unfold b64G
 rw [if_pos rfl]
theorem b64_back : ∀ (n : Nat) (l : List UInt8), l.length ≤ n → b64G 0 0 (b64Q l) = l
 | _, [], _ => rfl
 | _, [a], _ => by
  have ha := a.toNat_lt
  unfold b64Q quadP triV
  simp only [List.take_succ_cons, List.take_zero, List.cons_append, List.nil_append]
  rw [b64G_digit (by omega), if_neg (by omega), b64G_digit (by omega), if_neg (by omega), b64G_eq]
  unfold b64E
  rw [if_pos (by omega), if_neg (by omega), u8_nat (c := a) (by have : (0 : UInt8).toNat = 0 := rfl; omega)]
  rfl
 | _, [a, b], _ => by
  have ha := a.toNat_lt
  have hb := b.toNat_lt
  unfold b64Q quadP triV
  simp only [List.take_succ_cons, List.take_zero, List.cons_append, List.nil_append]
  rw [b64G_digit (by omega), if_neg (by omega), b64G_digit (by omega), if_neg (by omega), b64G_digit (by omega), if_neg (by omega), b64G_eq]
  unfold b64E
  rw [if_pos (by omega), if_pos (by omega), u8_nat (c := a) (by have : (0 : UInt8).toNat = 0 := rfl; omega), u8_nat (c := b) (by have : (0 : UInt8).toNat = 0 := rfl; omega)]
  rfl
 | 0, a :: b :: c :: r, h => by simp at h
 | n + 1, a :: b :: c :: r, h => by
  unfold b64Q
  rw [b64G_quad, b64_back n r (by simp at h; omega)]
  rfl
theorem unb64_b64 (l : List UInt8) : unb64P (b64P l) = l := by
 rw [unb64_G]
 unfold b64P
 rw [b64G_wrap]
 exact b64_back _ l (Nat.le_refl _)
def crlfCut : List UInt8 → Option (List UInt8 × List UInt8)
 | c :: d :: r => if c = 13 ∧ d = 10 then some ([], r) else (crlfCut (d :: r)).map fun q => (c :: q.1, q.2)
 | _ => none
theorem crlfCut_some : ∀ {l a b : List UInt8}, crlfCut l = some (a, b) → l = a ++ 13 :: 10 :: b
 | [], a, b, h => by cases h
 | [c], a, b, h => by cases h
 | c :: d :: r, a, b, h => by
  unfold crlfCut at h
  split at h
  ·rename_i hc
   injection h with h
   injection h with h1 h2
   subst h1
   subst h2
   rw [hc.1, hc.2]
   rfl
  ·cases hr : crlfCut (d :: r) with
   | none => rw [hr] at h; cases h
   | some q =>
    rw [hr] at h
    injection h with h
    injection h with h1 h2
    have := crlfCut_some (a := q.1) (b := q.2) hr
    rw [this, ← h1, ← h2]
    rfl
def qpEsc (c : UInt8) : List UInt8 := [61, hexU (c.toNat / 16), hexU (c.toNat % 16)]
def plainQ (c : UInt8) : Bool := decide (32 < c ∧ c < 127) && decide (c ≠ 61)
def qpPiece (c : UInt8) (last : Bool) : List UInt8 := if plainQ c = true ∨ (tabB c = true ∧ last = false) then [c] else qpEsc c
def qpL : Nat → List UInt8 → List UInt8
 | _, [] => []
 | n, c :: r => if 76 ≤ n + (qpPiece c r.isEmpty).length then [61, 13, 10] ++ (qpPiece c r.isEmpty ++ qpL (qpPiece c r.isEmpty).length r) else qpPiece c r.isEmpty ++ qpL (n + (qpPiece c r.isEmpty).length) r
def qpF : Nat → List UInt8 → List UInt8
 | 0, l => qpL 0 l
 | f + 1, l => match crlfCut l with
  | none => qpL 0 l
  | some q => qpL 0 q.1 ++ ([13, 10] ++ qpF f q.2)
def qpP (l : List UInt8) : List UInt8 := qpF l.length l
theorem hexV_U : ∀ n : Fin 16, hexV (hexU n.val) = some n.val ∧ hexU n.val ≠ 10 ∧ hexU n.val ≠ 13 ∧ tabB (hexU n.val) = false ∧ hexU n.val ≠ 61 := by decide +kernel
inductive Wr : List UInt8 → List UInt8 → Prop
 | nil : Wr [] []
 | raw {y z : List UInt8} (c : UInt8) (h : Wr y z) (h1 : c ≠ 61) (h2 : c ≠ 10) (h3 : c ≠ 13) : Wr (y ++ [c]) (z ++ [c])
 | esc {y z : List UInt8} (c : UInt8) (h : Wr y z) : Wr (y ++ qpEsc c) (z ++ [c])
theorem escB_esc (c : UInt8) (t : List UInt8) : escB (qpEsc c ++ t) = some c := by
 have h1 := hexV_U ⟨c.toNat / 16, by have := c.toNat_lt; omega⟩
 have h2 := hexV_U ⟨c.toNat % 16, by omega⟩
 dsimp only at h1 h2
 have e : escB (qpEsc c ++ t) = some (UInt8.ofNat (c.toNat / 16 * 16 + c.toNat % 16)) := by simp only [escB, qpEsc, List.cons_append, List.nil_append, if_true, h1.1, h2.1]
 rw [e, u8_nat (c := c) (by have := c.toNat_lt; omega)]
theorem escB_other {c : UInt8} (h : c ≠ 61) (t : List UInt8) : escB (c :: t) = none := by
 unfold escB
 split
 ·rename_i heq
  injection heq with h1 h2
  subst h1
  rw [if_neg h]
 ·rfl
theorem Wr.read {y z : List UInt8} (h : Wr y z) : ∀ t, unqP (y ++ t) = z ++ unqP t := by
 induction h with
 | nil => intro t; rfl
 | raw c h h1 h2 h3 ih =>
  intro t
  rw [List.append_assoc, ih, List.append_assoc]
  congr 1
  show unqP (c :: t) = _
  rw [unqP_skip (escB_other h1 t)]
  rfl
 | esc c h ih =>
  intro t
  rw [List.append_assoc, ih, List.append_assoc]
  congr 1
  have := escB_esc c t
  show unqP (61 :: _) = _
  rw [unqP_hit this]
  rfl
theorem Wr.free {y z : List UInt8} (h : Wr y z) : (10 : UInt8) ∉ y := by
 induction h with
 | nil => simp
 | raw c h h1 h2 h3 ih => simp [ih]; exact fun e => h2 e.symm
 | esc c h ih =>
  have h1 := hexV_U ⟨c.toNat / 16, by have := c.toNat_lt; omega⟩
  have h2 := hexV_U ⟨c.toNat % 16, by omega⟩
  dsimp only at h1 h2
  simp only [List.mem_append, not_or]
  refine ⟨ih, ?_⟩
  unfold qpEsc
  simp only [List.mem_cons, List.not_mem_nil, or_false, not_or]
  exact ⟨by decide, fun e => h1.2.1 e.symm, fun e => h2.2.1 e.symm⟩
def EndOk (y : List UInt8) : Prop := ∀ c, y.getLast? = some c → tabB c = false ∧ c ≠ 61 ∧ c ≠ 13
theorem naked_self {y : List UInt8} (h : ∀ c, y.getLast? = some c → tabB c = false) : nakedP y = y := by
 unfold nakedP Lib.trimRightS
 rcases List.eq_nil_or_concat y with rfl | ⟨t, c, rfl⟩
 ·rfl
 ·have h1 := h c (by simp)
  rw [List.concat_eq_append, List.reverse_append]
  show (List.dropWhile _ (c :: t.reverse)).reverse = _
  have h2 : (blanksP.contains c) = false := by
   unfold tabB at h1
   unfold blanksP
   simp at h1 ⊢
   exact h1
  rw [List.dropWhile_cons_of_neg (by simpa using h2)]
  simp
theorem line_soft (y z : List UInt8) (h : Wr y z) (t : List UInt8) : unqpP (y ++ ([61, 13, 10] ++ t)) = z ++ unqpP t := by
 have h1 : cutP 10 (y ++ ([61, 13, 10] ++ t)) = some (y ++ [61, 13], t) := by
  rw [show y ++ ([61, 13, 10] ++ t) = (y ++ [61, 13]) ++ 10 :: t by simp]
  refine cutP_mk ?_
  have := h.free
  simp [this]
 rw [unqpP_more h1]
 congr 1
 unfold qpLine
 have e1 : (y ++ [61, 13]).getLast? = some 13 := by simp
 have e2 : (y ++ [61, 13]).dropLast = y ++ [61] := by rw [show y ++ [61, 13] = (y ++ [61]) ++ [13] by simp, List.dropLast_concat]
 have e3 : nakedP (y ++ [61]) = y ++ [61] := naked_self (fun c hc => by simp at hc; subst hc; rfl)
 simp only [if_true, e1, e2, e3]
 rw [if_pos (by simp), List.dropLast_concat]
 have := h.read []
 rw [List.append_nil] at this
 rw [this, unqP_nil, List.append_nil]
theorem line_end (y z : List UInt8) (h : Wr y z) (he : EndOk y) : unqpP y = z := by
 by_cases hy : y = []
 ·subst hy
  have := h.read []
  simp only [List.append_nil, unqP_nil] at this
  rw [← this]
  rfl
 ·rw [unqpP_last hy (cutP_none.2 h.free)]
  unfold qpLine
  have e3 : nakedP y = y := naked_self (fun c hc => (he c hc).1)
  simp only [Bool.false_eq_true, if_false, e3]
  rw [if_neg (fun e => (he _ e).2.1 rfl), List.append_nil]
  have := h.read []
  rwa [List.append_nil, unqP_nil, List.append_nil] at this
theorem line_hard (y z : List UInt8) (h : Wr y z) (he : EndOk y) (t : List UInt8) : unqpP (y ++ ([13, 10] ++ t)) = z ++ ([13, 10] ++ unqpP t) := by
 have h1 : cutP 10 (y ++ ([13, 10] ++ t)) = some (y ++ [13], t) := by
  rw [show y ++ ([13, 10] ++ t) = (y ++ [13]) ++ 10 :: t by simp]
  refine cutP_mk ?_
  have := h.free
  simp [this]
 rw [unqpP_more h1, ← List.append_assoc]
 congr 1
 unfold qpLine
 have e1 : (y ++ [13]).getLast? = some 13 := by simp
 have e3 : nakedP y = y := naked_self (fun c hc => (he c hc).1)
 simp only [if_true, e1, List.dropLast_concat, e3]
 rw [if_neg (fun e => (he _ e).2.1 rfl)]
 have := h.read []
 rw [List.append_nil, unqP_nil, List.append_nil] at this
 rw [this]
theorem Wr.piece {y z : List UInt8} (h : Wr y z) (c : UInt8) (b : Bool) : Wr (y ++ qpPiece c b) (z ++ [c]) := by
 unfold qpPiece
 split
 ·rename_i hc
  have h1 : c ≠ 61 ∧ c ≠ 10 ∧ c ≠ 13 := by
   rcases hc with hc | ⟨hc, _⟩
   ·unfold plainQ at hc
    simp at hc
    refine ⟨hc.2, ?_, ?_⟩
    ·rintro rfl; exact absurd hc.1.1 (by decide)
    ·rintro rfl; exact absurd hc.1.1 (by decide)
   ·unfold tabB at hc
    simp at hc
    rcases hc with rfl | rfl <;> exact ⟨by decide, by decide, by decide⟩
  exact Wr.raw c h h1.1 h1.2.1 h1.2.2
 ·exact Wr.esc c h
theorem piece_ends (y : List UInt8) (c : UInt8) : EndOk (y ++ qpPiece c true) := by
 intro x hx
 unfold qpPiece at hx
 split at hx
 ·rename_i hc
  rw [List.getLast?_append, show [c].getLast? = some c from rfl] at hx
  injection hx with hx
  subst hx
  rcases hc with hc | ⟨_, hc⟩
  ·unfold plainQ at hc
   simp at hc
   refine ⟨?_, hc.2, ?_⟩
   ·unfold tabB
    simp
    constructor
    ·rintro rfl; exact absurd hc.1.1 (by decide)
    ·rintro rfl; exact absurd hc.1.1 (by decide)
   ·rintro rfl; exact absurd hc.1.1 (by decide)
  ·cases hc
 ·have h2 := hexV_U ⟨c.toNat % 16, by omega⟩
  dsimp only at h2
  rw [List.getLast?_append, show (qpEsc c).getLast? = some (hexU (c.toNat % 16)) from rfl] at hx
  injection hx with hx
  subst hx
  exact ⟨h2.2.2.2.1, h2.2.2.2.2, h2.2.2.1⟩
theorem line_read : ∀ (x : List UInt8) (n : Nat) (y z : List UInt8), Wr y z → (x = [] → EndOk y) → unqpP (y ++ qpL n x) = z ++ x ∧ ∀ t, unqpP (y ++ (qpL n x ++ ([13, 10] ++ t))) = z ++ x ++ ([13, 10] ++ unqpP t)
 | [], n, y, z, h, he => by
  constructor
  ·show unqpP (y ++ []) = _
   rw [List.append_nil, List.append_nil, line_end y z h (he rfl)]
  ·intro t
   show unqpP (y ++ ([] ++ ([13, 10] ++ t))) = _
   rw [List.nil_append, line_hard y z h (he rfl), List.append_nil]
 | c :: r, n, y, z, h, _ => by
  have hE : ∀ Y : List UInt8, r = [] → EndOk (Y ++ qpPiece c r.isEmpty) := fun Y e => by subst e; exact piece_ends Y c
  unfold qpL
  split
  ·have ih := line_read r (qpPiece c r.isEmpty).length (qpPiece c r.isEmpty) [c] (by have := Wr.nil.piece c r.isEmpty; simpa using this) (by have := hE []; simpa using this)
   constructor
   ·rw [line_soft y z h, ih.1]
    simp
   ·intro t
    rw [List.append_assoc, List.append_assoc, line_soft y z h, ih.2]
    simp
  ·have ih := line_read r (n + (qpPiece c r.isEmpty).length) (y ++ qpPiece c r.isEmpty) (z ++ [c]) (h.piece c _) (hE y)
   constructor
   ·rw [← List.append_assoc, ih.1]
    simp
   ·intro t
    rw [List.append_assoc, ← List.append_assoc, ih.2]
    simp
theorem unqp_qp : ∀ (f : Nat) (l : List UInt8), unqpP (qpF f l) = l
 | 0, l => by
  have := (line_read l 0 [] [] Wr.nil (fun _ c hc => by cases hc)).1
  simpa [qpF] using this
 | f + 1, l => by
  unfold qpF
  cases h : crlfCut l with
  | none =>
   have := (line_read l 0 [] [] Wr.nil (fun _ c hc => by cases hc)).1
   simpa using this
  | some q =>
   have h1 := crlfCut_some (a := q.1) (b := q.2) h
   have := (line_read q.1 0 [] [] Wr.nil (fun _ c hc => by cases hc)).2 (qpF f q.2)
   show unqpP (qpL 0 q.1 ++ ([13, 10] ++ qpF f q.2)) = l
   rw [List.nil_append] at this
   rw [this, unqp_qp f q.2, h1]
   rfl
abbrev SliP := Option Addr × Nat × Nat
structure RawP where
 up : Int
 depth : Int
 start : Int
 body : Int
 stop : Int
 kind : List UInt8
 sub : List UInt8
 pars : SliP
 code : List UInt8
def rawP (p : Prt) (v : SliP) : RawP := ⟨p.up, p.depth, p.start, p.body, p.stop, p.typ.kind, p.typ.sub, v, p.code⟩
def bytesP (s : List UInt8) (p : Prt) : List UInt8 := if p.code = wB64 then unb64P (bodyOf s p) else if p.code = wQp then unqpP (bodyOf s p) else bodyOf s p
def signB (c : UInt8) : Bool := letterB c
def behindP (m s : List UInt8) : List UInt8 := (Lib.cut s m).2.1
def tagsB (s : List UInt8) : Bool := match s with
 | c :: d :: _ => decide (c = 60) && (decide (d = 47) || decide (d = 33) || decide (d = 63) || (signB d && decide (57 < d)))
 | _ => false
def nameTag (s : List UInt8) : List UInt8 × Bool := match s with
 | c :: r => if c = 47 then (smallP (r.takeWhile signB), true) else (smallP ((c :: r).takeWhile signB), false)
 | [] => ([], false)
def breakNames : List (List UInt8) := [[98, 114], [112], [100, 105, 118], [116, 114], [108, 105], [104, 49], [104, 50], [104, 51], [104, 52], [104, 53], [104, 54]]
def wScript : List UInt8 := [115, 99, 114, 105, 112, 116]
def wStyle : List UInt8 := [115, 116, 121, 108, 101]
def tagP (s : List UInt8) : List UInt8 × List UInt8 :=
 if ([60, 33, 45, 45] : List UInt8).isPrefixOf s = true then ([], behindP [45, 45, 62] (s.drop 4))
 else
  let q := nameTag (s.drop 1)
  let rest := behindP [62] s
  let out : List UInt8 := if q.1 ∈ breakNames then [10] else []
  if q.2 = true ∨ (q.1 ≠ wScript ∧ q.1 ≠ wStyle) then (out, rest)
  else if Lib.index (smallP rest) ([60, 47] ++ q.1) < 0 then (out, []) else (out, rest.drop (Lib.index (smallP rest) ([60, 47] ++ q.1)).toNat)
def digitV (base : Nat) (c : UInt8) : Option Nat := match hexV c with
 | some d => if d < base then some d else none
 | none => none
def numG (base : Nat) : Nat → List UInt8 → Option Nat
 | n, [] => some n
 | n, c :: r => match digitV base c with
  | some d => numG base (n * base + d) r
  | none => none
def numP (l : List UInt8) (base most : Nat) : Option Nat := if l = [] ∨ most < l.length then none else numG base 0 l
def entNames : List (List UInt8 × Nat) := [([97, 109, 112], 38), ([108, 116], 60), ([103, 116], 62), ([113, 117, 111, 116], 34), ([97, 112, 111, 115], 39), ([110, 98, 115, 112], 32)]
def runeC (n : Nat) : List UInt8 := if 1114111 < n then Lib.encodeRune 65533 else Lib.encodeRune n
def entV (name : List UInt8) : Option (List UInt8) := match entNames.find? (fun q => decide (q.1 = name)) with
 | some q => some (Lib.encodeRune q.2)
 | none => match name with
  | c :: t => if c = 35 then (match t with
   | x :: u => if x = 120 ∨ x = 88 then (numP u 16 6).map runeC else (numP t 10 7).map runeC
   | [] => none) else none
  | [] => none
def entP (s : List UInt8) : Option (List UInt8 × List UInt8) := match cutP 59 (s.drop 1) with
 | none => none
 | some q => (entV q.1).map fun v => (v, q.2)
def stripF : Nat → List UInt8 → List UInt8
 | 0, _ => []
 | _ + 1, [] => []
 | f + 1, c :: r => if tagsB (c :: r) = true then (tagP (c :: r)).1 ++ stripF f (tagP (c :: r)).2
  else if c = 38 then (match entP (c :: r) with
   | some q => q.1 ++ stripF f q.2
   | none => c :: stripF f r)
  else c :: stripF f r
def stripP (s : List UInt8) : List UInt8 := stripF s.length s
def lfP : List UInt8 → List UInt8
 | [] => []
 | [c] => [c]
 | c :: d :: r => if c = 13 ∧ d = 10 then 10 :: lfP r else c :: lfP (d :: r)
def wText : List UInt8 := [116, 101, 120, 116]
def wHtml : List UInt8 := [104, 116, 109, 108]
def wCharset : List UInt8 := [99, 104, 97, 114, 115, 101, 116]
def wFilename : List UInt8 := [102, 105, 108, 101, 110, 97, 109, 101]
def wName : List UInt8 := [110, 97, 109, 101]
def wAttach : List UInt8 := [97, 116, 116, 97, 99, 104, 109, 101, 110, 116]
def wInline : List UInt8 := [105, 110, 108, 105, 110, 101]
def cdName : List UInt8 := [99, 111, 110, 116, 101, 110, 116, 45, 100, 105, 115, 112, 111, 115, 105, 116, 105, 111, 110]
def textOf (s : List UInt8) (p : Prt) : List UInt8 :=
 if p.typ.kind ≠ wText then [] else
  let set := (paramT p.typ.params wCharset).getD []
  let t := if set ≠ [] then decodeSet set (bytesP s p) else repairP (bytesP s p)
  lfP (if p.typ.sub = wHtml then stripP t else t)
def toldP (s : List UInt8) (p : Prt) : List UInt8 × List (List UInt8 × List UInt8) := dispT ((getP (headOf s p) cdName).getD [])
def nameOf (s : List UInt8) (p : Prt) : List UInt8 :=
 let f := (paramT (toldP s p).2 wFilename).getD []
 wordsP (if f = [] then (paramT p.typ.params wName).getD [] else f)
def attachedP (s : List UInt8) (p : Prt) : Bool :=
 if (toldP s p).1 = wAttach then true
 else if (toldP s p).1 ≠ wInline ∧ nameOf s p ≠ [] then true
 else decide (p.typ.kind ≠ wText) && decide (p.typ.kind ≠ wMulti)
end Go.Proofs.YthidbmeaccpjdaaGreatDoor
