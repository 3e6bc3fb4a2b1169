/- A row of strings of the call's own, and append of one string. Layer 12: rows read, lengths, the state of list's first loop. Layer 12: the contract of list (printed by gen_list.py). -/
import Derived.Test.YthidbmeaccpjdaaGreatDoorM01
import Derived.Test.YthidbmeaccpjdaaGreatDoorM09
import Derived.Test.YthidbmeaccpjdaaGreatDoorM10
import Derived.Test.YthidbmeaccpjdaaGreatDoorM02
section
namespace Go.Proofs.YthidbmeaccpjdaaGreatDoor
open Go.RowKit
set_option linter.unusedVariables false
theorem str_info : (Tryz.prog.info? 9).map (fun i => (i.zero, i.size, i.bytes)) = some (some (.string ByteArray.empty), 1, 16) := by kernel_rfl
def sv (l : List (List UInt8)) : List Value := l.map fun s => .string (ba s)
theorem sv_snoc (l : List (List UInt8)) (s : List UInt8) : sv (l ++ [s]) = sv l ++ [.string (ba s)] := by simp [sv]
def OwnStrs (w : World) (B : Nat) (v : Value) (ss : List (List UInt8)) : Prop := w.ownsRow B 9 1 v ss.length (sv ss)
theorem OwnStrs.nil_ (w : World) (B : Nat) : OwnStrs w B (.slice none 0 0) [] := World.ownsRow_nil _ _ _ _
theorem OwnStrs.below {w w' : World} {B : Nat} {v : Value} {ss : List (List UInt8)} (h : OwnStrs w B v ss) (hb : Below w.heap.size w w') : OwnStrs w' B v ss :=
 ownsRow_block h fun b e => hb.block b (h.lt b e).2
theorem OwnStrs.block {w w' : World} {B : Nat} {v : Value} {ss : List (List UInt8)} (h : OwnStrs w B v ss) (hb : ∀ b, v.ownBlock = some b → w'.heap[b]? = w.heap[b]?) : OwnStrs w' B v ss := ownsRow_block h hb
theorem OwnStrs.more {w : World} {B B' : Nat} {v : Value} {ss : List (List UInt8)} (h : OwnStrs w B v ss) (hB : B' ≤ B) : OwnStrs w B' v ss := by
 refine ⟨h.1, ?_⟩
 rcases h.2 with h | ⟨g, cap, cur, h1, h2, h3⟩
 ·exact .inl h
 ·exact .inr ⟨g, cap, cur, h1, by omega, h3⟩
def Strs (w : World) (B : Nat) (A : Option Addr) (n : Nat) (ss : List (List UInt8)) : Prop := n = ss.length ∧ Run w B A (sv ss)
theorem OwnStrs.strs {w : World} {B : Nat} {v : Value} {ss : List (List UInt8)} (h : OwnStrs w B v ss) : ∃ A c, v = .slice A ss.length c ∧ ss.length ≤ c ∧ c ≤ maxLen ∧ Strs w w.heap.size A ss.length ss := by
 have h0 := h
 rcases h.2 with ⟨rfl, hn⟩ | ⟨g, cap, cur, rfl, hb, hg, h1, h2, h3, h4⟩
 ·have : ss = [] := List.eq_nil_of_length_eq_zero hn
  subst this
  exact ⟨none, 0, rfl, Nat.le_refl _, by simp, rfl, .inl rfl⟩
 ·exact ⟨_, cap, rfl, h1, h2, rfl, Run.of_own h0⟩
theorem wpList_pushStr {ops : Array Oper} {rest : List Oper} {o : Oper} {a : Act} {W : World} {Q : Exit → Act → World → Prop} {B : Nat} {s : List UInt8} {v : Value} {ss : List (List UInt8)} (hown : OwnStrs W B v ss) (hB : B ≤ W.heap.size)
  (hlen : ss.length < 1099511627776) (hgd : o.guard = none) (x y : Operand) (t : TypeId) (c : Nat)
  (ho : o.op = .call { callee := .builtin .append, args := #[x, y], argTypes := #[t, t] }) (ht : Tryz.prog.underlying t = some (.slice 9))
  (hs : a.eval x = v) (hx : a.eval y = .slice (some ⟨W.heap.size, 0, none⟩) 1 c)
  (h : ∀ v' w', OwnStrs w' B v' (ss ++ [s]) → W.grownBy w' v.ownBlock → (v'.ownBlock = v.ownBlock ∨ ∃ k, v'.ownBlock = some k ∧ W.heap.size ≤ k) → wpList Tryz.prog ops Q rest (a.put o.dst v') w') :
  wpList Tryz.prog ops Q (o :: rest) a (W.alloc (.cells #[.string (ba s)] 9)) := by
 obtain ⟨i0, hi, hz0, hz1, hz2⟩ := info_parts str_info
 refine wpList_append_own_at _ hgd x y t ho B 9 i0 _ 1 16 ht hi hz0 hz1 hz2 rfl (by omega) v ss.length (sv ss) hs (World.ownsRow.alloc hown _) ⟨W.heap.size, 0, none⟩ 1 c [.string (ba s)] hx rfl (cell_one_new _ _ _) ?_ (by simp only [maxLen]; omega) (by omega) (by simp; omega) ?_
 ·intro u hu; simp at hu; subst hu; rfl
 ·intro v' w' h1 h2 _ h4
  refine h v' w' ?_ ?_ ?_
  ·show w'.ownsRow B _ 1 v' _ _
   rw [sv_snoc]; simpa using h1
  ·have h5 := World.grownBy_alloc W (.cells #[.string (ba s)] 9) v.ownBlock
   exact ⟨h2.os.trans h5.os, h2.tape.trans h5.tape, h2.output.trans h5.output, Nat.le_trans h5.size h2.size, fun k hk hne => (h2.block k (by simp; omega) hne).trans (h5.block k hk hne)⟩
  ·rcases h4 with h4 | h4
   ·exact .inl h4
   ·exact .inr ⟨_, h4, by simp⟩
end Go.Proofs.YthidbmeaccpjdaaGreatDoor
end
section
namespace Go.Proofs.YthidbmeaccpjdaaGreatDoor
open Go.RowKit
set_option linter.unusedVariables false
theorem unescP_len : ∀ (n : Nat) (l : List UInt8), l.length ≤ n → (unescP l).length ≤ l.length
 | 0, l, h => by
  have : l = [] := List.eq_nil_of_length_eq_zero (by omega)
  subst this
  exact Nat.le_refl _
 | n + 1, [], _ => Nat.le_refl _
 | n + 1, [c], _ => by
  show (if c = 92 then ([] : List UInt8) else if c = 10 ∨ c = 13 then [] else [c]).length ≤ 1
  split
  ·simp
  ·split <;> simp
 | n + 1, c :: x :: r, h => by
  have h0 : r.length + 2 ≤ n + 1 := by simpa using h
  have h1 := unescP_len n r (by omega)
  have h2 := unescP_len n (x :: r) (by simp only [List.length_cons]; omega)
  show (if c = 92 then x :: unescP r else if c = 10 ∨ c = 13 then unescP (x :: r) else c :: unescP (x :: r)).length ≤ (c :: x :: r).length
  simp only [List.length_cons] at h2 ⊢
  split
  ·simp only [List.length_cons]; omega
  ·split
   ·omega
   ·simp only [List.length_cons]; omega
theorem meanP_len (t : Tok) : (meanP t).length ≤ t.text.length := by
 unfold meanP
 split
 ·exact Nat.le_refl _
 ·refine Nat.le_trans (unescP_len _ _ (Nat.le_refl _)) ?_
  rw [List.length_take, List.length_drop]
  omega
theorem restV_len (b : List UInt8) (r : List Tok) : (restV b r).length ≤ b.length + (joinP r).length := by
 have key : (b ++ joinP r).length ≤ b.length + (joinP r).length := by rw [List.length_append]; exact Nat.le_refl _
 cases b with
 | cons x y => exact key
 | nil =>
  cases r with
  | nil => exact key
  | cons u r' =>
   show (if u.kind = 2 then meanP u else joinP (u :: r')).length ≤ _
   split
   ·have h1 := meanP_len u
    have h2 : (joinP (u :: r')).length = u.text.length + (joinP r').length := by unfold joinP; rw [List.flatMap_cons, List.length_append]
    rw [h2]
    simp only [List.length_nil]
    omega
   ·simp
theorem pairG_len : ∀ (r : List Tok) (a : List UInt8), ((pairG a r).getD ([], [])).1.length ≤ a.length + (joinP r).length ∧ ((pairG a r).getD ([], [])).2.length ≤ a.length + (joinP r).length
 | [], a => by
  show (([] : List UInt8)).length ≤ _ ∧ (([] : List UInt8)).length ≤ _
  simp
 | t :: r, a => by
  have hj : (joinP (t :: r)).length = t.text.length + (joinP r).length := by unfold joinP; rw [List.flatMap_cons, List.length_append]
  by_cases h : t.kind = 1 ∧ (cutV 61 t.text).2.2 = true
  ·obtain ⟨⟨x, y, z⟩, hc⟩ : ∃ q, cutV 61 t.text = q := ⟨_, rfl⟩
   have hl := cutV_len 61 t.text
   rw [hc] at hl h
   have hz : z = true := h.2
   subst hz
   rw [pairG_hit h.1 hc]
   have h2 := restV_len y r
   have h3 : (smallP (a ++ x)).length = a.length + x.length := by rw [smallP_len, List.length_append]
   show (smallP (a ++ x)).length ≤ _ ∧ (restV y r).length ≤ _
   have h4 : x.length ≤ t.text.length := hl.1
   have h5 : y.length ≤ t.text.length := hl.2
   omega
  ·have h2 : t.kind ≠ 1 ∨ (cutV 61 t.text).2.2 = false := by
    by_cases hk : t.kind = 1
    ·refine .inr ?_
     cases hz : (cutV 61 t.text).2.2 with
     | false => rfl
     | true => exact absurd ⟨hk, hz⟩ h
    ·exact .inl hk
   rw [pairG_skip h2]
   have h3 := pairG_len r (a ++ t.text)
   rw [List.length_append] at h3
   rw [hj]
   omega
theorem pairP_len (l : List Tok) : (pairP l).1.length ≤ (joinP l).length ∧ (pairP l).2.length ≤ (joinP l).length := by
 have := pairG_len l []
 simp only [List.length_nil, Nat.zero_add] at this
 exact this
theorem whereP_len (n : List UInt8) : (whereP n).name.length ≤ n.length := by
 obtain ⟨m, hm⟩ : ∃ m, (if (decide (1 < n.length) && decide (n.getLast? = some 42)) = true then n.dropLast else n) = m := ⟨_, rfl⟩
 have hl : m.length ≤ n.length := by
  subst hm
  split
  ·rw [List.length_dropLast]; omega
  ·exact Nat.le_refl _
 cases h : lastP 42 m with
 | none =>
  rw [whereP_none n _ m rfl hm h]
  exact hl
 | some q =>
  obtain ⟨a, b⟩ := q
  have h1 := (lastP_some h).1
  have h2 : a.length ≤ m.length := by rw [h1, List.length_append]; omega
  cases h4 : decP b 0 63 with
  | none => rw [whereP_bad n _ m rfl hm a b h h4]; exact hl
  | some v => rw [whereP_num n _ m rfl hm a b h v h4]; exact Nat.le_trans h2 hl
theorem decP_range {l : List UInt8} {lo hi v : Int} (h : decP l lo hi = some v) : lo ≤ v ∧ v ≤ hi := by
 rw [decP_eq] at h
 split at h
 ·rename_i h2
  injection h with h
  rw [← h]
  exact h2.2
 ·cases h
theorem whereP_sec (n : List UInt8) : -1 ≤ (whereP n).section_ ∧ (whereP n).section_ ≤ 63 := by
 obtain ⟨m, hm⟩ : ∃ m, (if (decide (1 < n.length) && decide (n.getLast? = some 42)) = true then n.dropLast else n) = m := ⟨_, rfl⟩
 cases h : lastP 42 m with
 | none => rw [whereP_none n _ m rfl hm h]; exact ⟨by show (-1 : Int) ≤ -1; omega, by show (-1 : Int) ≤ 63; omega⟩
 | some q =>
  obtain ⟨a, b⟩ := q
  cases h4 : decP b 0 63 with
  | none => rw [whereP_bad n _ m rfl hm a b h h4]; exact ⟨by show (-1 : Int) ≤ -1; omega, by show (-1 : Int) ≤ 63; omega⟩
  | some v =>
   rw [whereP_num n _ m rfl hm a b h v h4]
   have := decP_range h4
   exact ⟨by show (-1 : Int) ≤ v; omega, this.2⟩
theorem namesP_mem : ∀ (ones : List One1) (a : List (List UInt8)) (x : List UInt8), x ∈ ones.foldl (fun a x => if x.at_.name ∈ a then a else a ++ [x.at_.name]) a → x ∈ a ∨ ∃ o ∈ ones, o.at_.name = x
 | [], a, x, h => .inl h
 | o :: r, a, x, h => by
  rw [List.foldl_cons] at h
  rcases namesP_mem r _ x h with h | ⟨p, hp, e⟩
  ·split at h
   ·exact .inl h
   ·rcases List.mem_append.1 h with h | h
    ·exact .inl h
    ·rw [List.mem_singleton] at h
     exact .inr ⟨o, List.mem_cons_self .., h.symm⟩
  ·exact .inr ⟨p, List.mem_cons_of_mem _ hp, e⟩
theorem namesP_len : ∀ (ones : List One1) (a : List (List UInt8)), (ones.foldl (fun a x => if x.at_.name ∈ a then a else a ++ [x.at_.name]) a).length ≤ a.length + ones.length
 | [], a => Nat.le_refl _
 | o :: r, a => by
  rw [List.foldl_cons]
  have := namesP_len r (if o.at_.name ∈ a then a else a ++ [o.at_.name])
  have h2 : (if o.at_.name ∈ a then a else a ++ [o.at_.name]).length ≤ a.length + 1 := by
   split
   ·omega
   ·rw [List.length_append]; simp
  simp only [List.length_cons]
  omega
theorem onesP_len (rs : List (List Tok)) : (onesP rs).length ≤ rs.length := by
 unfold onesP
 refine Nat.le_trans (List.length_filterMap_le _ _) ?_
 rw [List.length_map]
 exact Nat.le_refl _
theorem onesP_ok {rs : List (List Tok)} (h : ∀ r ∈ rs, (joinP r).length ≤ 10000000) : onesOk (onesP rs) := by
 intro o ho
 unfold onesP at ho
 obtain ⟨q, hq, he⟩ := List.mem_filterMap.1 ho
 obtain ⟨r, hr, rfl⟩ := List.mem_map.1 hq
 split at he
 ·cases he
 ·injection he with he
  subst he
  have h1 := pairP_len r
  have h2 := h r hr
  have h3 := whereP_len (pairP r).1
  exact ⟨by show (pairP r).2.length ≤ _; omega, by show (whereP (pairP r).1).name.length ≤ _; omega⟩
structure RowsIn (w : World) (B : Nat) (A : Option Addr) (n : Nat) (rs : List (List Tok)) : Prop where
 len : rs.length = n
 ex : ∃ xs, xs.length = n ∧ Run w B A xs ∧ ∀ i (hi : i < rs.length), ∃ A' c', xs[i]? = some (.slice A' rs[i].length c') ∧ rs[i].length ≤ c' ∧ c' ≤ maxLen ∧ Toks w B A' rs[i].length rs[i]
theorem RowsIn.below {w w' : World} {B n : Nat} {A : Option Addr} {rs : List (List Tok)} (h : RowsIn w B A n rs) (hb : Below B w w') : RowsIn w' B A n rs := by
 obtain ⟨h1, xs, h2, h3, h4⟩ := h
 refine ⟨h1, xs, h2, h3.below hb, fun i hi => ?_⟩
 obtain ⟨A', c', e1, e2, e3, e4⟩ := h4 i hi
 exact ⟨A', c', e1, e2, e3, e4.below hb⟩
theorem RowsIn.more {w : World} {B B' n : Nat} {A : Option Addr} {rs : List (List Tok)} (h : RowsIn w B A n rs) (hB : B ≤ B') : RowsIn w B' A n rs := by
 obtain ⟨h1, xs, h2, h3, h4⟩ := h
 refine ⟨h1, xs, h2, h3.more hB, fun i hi => ?_⟩
 obtain ⟨A', c', e1, e2, e3, e4⟩ := h4 i hi
 exact ⟨A', c', e1, e2, e3, e4.more hB⟩
theorem RowsIn.cut {w : World} {B n cap : Nat} {A : Option Addr} {rs : List (List Tok)} (h : RowsIn w B A n rs) {k : Nat} (hc : n ≤ cap) : RowsIn w B (if cap = k then A else A.map (·.add k)) (n - k) (rs.drop k) := by
 obtain ⟨h1, xs, h2, h3, h4⟩ := h
 refine ⟨by rw [List.length_drop, h1], xs.drop k, by rw [List.length_drop, h2], h3.cut (by omega), fun i hi => ?_⟩
 rw [List.length_drop] at hi
 obtain ⟨A', c', e1, e2, e3, e4⟩ := h4 (k + i) (by omega)
 refine ⟨A', c', ?_, ?_, e3, ?_⟩
 ·rw [List.getElem?_drop, e1, List.getElem_drop]
 ·rw [List.getElem_drop]; exact e2
 ·rw [List.getElem_drop]; exact e4
theorem RowsIn.at_ {w : World} {B n : Nat} {A : Option Addr} {rs : List (List Tok)} (h : RowsIn w B A n rs) {k : Nat} (hk : k < rs.length) : ∃ ad A' c', A = some ad ∧ ad.block < B ∧ w.cell? (ad.add k) = some (.slice A' rs[k].length c') ∧ rs[k].length ≤ c' ∧ c' ≤ maxLen ∧ Toks w B A' rs[k].length rs[k] := by
 obtain ⟨h1, xs, h2, h3, h4⟩ := h
 obtain ⟨A', c', e1, e2, e3, e4⟩ := h4 k hk
 obtain ⟨ad, u, a1, a2, a3, a4⟩ := h3.at_ (k := k) (by omega)
 rw [a3] at e1
 injection e1 with e1
 subst e1
 exact ⟨ad, A', c', a1, a2, a4, e2, e3, e4⟩
theorem RowsAt.rows {w : World} {B C : Nat} {v : Value} {rs : List (List Tok)} {xs : List Value} (h : RowsAt w B C v rs xs) : ∃ A c, v = .slice A rs.length c ∧ rs.length ≤ c ∧ c ≤ maxLen ∧ RowsIn w w.heap.size A rs.length rs := by
 have hown := h.own
 have key : ∀ A, Run w w.heap.size A xs → RowsIn w w.heap.size A rs.length rs := fun A hr => by
  refine ⟨rfl, xs, h.len, hr, fun i hi => ?_⟩
  obtain ⟨A', c', e1, e2, e3, e4⟩ := (h.each i hi).reads
  refine ⟨A', c', ?_, e2, e3, e4⟩
  rw [← e1, List.getD_eq_getElem?_getD, List.getElem?_eq_getElem (by rw [h.len]; exact hi)]
  rfl
 rcases hown.2 with ⟨rfl, hn⟩ | ⟨g, cap, cur, rfl, hb, hg, h1, h2, h3, h4⟩
 ·have : rs = [] := List.eq_nil_of_length_eq_zero hn
  have hx : xs = [] := List.eq_nil_of_length_eq_zero (by rw [h.len, this]; rfl)
  rw [this]
  rw [this, hx] at key
  exact ⟨none, 0, rfl, Nat.le_refl _, by simp, key none (.inl rfl)⟩
 ·exact ⟨_, cap, rfl, h1, h2, key _ (Run.of_own hown)⟩
structure LSt (w : World) (oa ob oc : List One1) (c : Nat) (v : Value) (ns : List (List UInt8)) (W : World) : Prop where
 par : MapL spotK W w.heap.size (parF oa) c
 fir : MapL spotK W (w.heap.size + 1) (firF ob) c
 seen : MapL strK W (w.heap.size + 2) (seenF oc) c
 own : OwnStrs W (w.heap.size + 3) v ns
 bel : Below w.heap.size w W
 size : w.heap.size + 3 ≤ W.heap.size
section
variable {w W W' : World} {oa ob oc : List One1} {c : Nat} {v : Value} {ns : List (List UInt8)} {o : One1}
theorem LSt.below (h : LSt w oa ob oc c v ns W) (hb : Below W.heap.size W W') : LSt w oa ob oc c v ns W' :=
 ⟨h.par.below hb, h.fir.below hb, h.seen.below hb, h.own.below hb, h.bel.trans (hb.mono h.bel.size), Nat.le_trans h.size hb.size⟩
theorem LSt.grown (h : LSt w oa ob oc c v ns W) {b : Nat} (hg : W.grownBy W' (some b)) (h0 : w.heap.size ≤ b) (h3 : b < w.heap.size + 3) :
  OwnStrs W' (w.heap.size + 3) v ns ∧ Below w.heap.size w W' ∧ w.heap.size + 3 ≤ W'.heap.size := by
 refine ⟨h.own.block fun q e => hg.block q (h.own.lt q e).2 fun e2 => ?_, h.bel.grown hg h.bel.size fun q e => ?_, Nat.le_trans h.size hg.size⟩
 ·have h1 := (h.own.lt q e).1
  have h2 : q = b := by simpa using e2
  omega
 ·have : b = q := Option.some.inj e
  omega
theorem LSt.parKeep (h : LSt w oa ob oc c v ns W) {u : Value} (hv : parF oa o.at_ = some u) : LSt w (oa ++ [o]) ob oc c v ns W :=
 ⟨par_keep h.par hv, h.fir, h.seen, h.own, h.bel, h.size⟩
theorem LSt.parPut (h : LSt w oa ob oc c v ns W) (hv : parF oa o.at_ = none) (hc : c < maxLen) (hf : spotK.fits o.at_) :
  ∃ W', (Instr.mapUpdate 193 (.map (some w.heap.size)) (spotV o.at_) (.string (ba o.value))).run Tryz.prog W = .ok () W' ∧ LSt w (oa ++ [o]) ob oc (c + 1) v ns W' ∧ W.grownBy W' (some w.heap.size) := by
 obtain ⟨W', h1, h2, h3⟩ := h.par.put Tryz.underlying193 hc hf (.string (ba o.value))
 obtain ⟨k1, k2, k3⟩ := h.grown h3 (Nat.le_refl _) (by omega)
 refine ⟨W', h1, ⟨par_put h2 hv, (h.fir.keep (h3.block _ h.fir.lt (by simp))).mono (Nat.le_succ _), (h.seen.keep (h3.block _ h.seen.lt (by simp))).mono (Nat.le_succ _), k1, k2, k3⟩, h3⟩
theorem LSt.firSkip (h : LSt w oa ob oc c v ns W) (hs : ¬ 0 ≤ o.at_.section_) : LSt w oa (ob ++ [o]) oc c v ns W :=
 ⟨h.par, fir_skip h.fir hs, h.seen, h.own, h.bel, h.size⟩
theorem LSt.firKeep (h : LSt w oa ob oc c v ns W) {u : Value} (hv : firF ob ⟨o.at_.name, o.at_.section_, false⟩ = some u) : LSt w oa (ob ++ [o]) oc c v ns W :=
 ⟨h.par, fir_keep h.fir hv, h.seen, h.own, h.bel, h.size⟩
theorem LSt.firPut (h : LSt w oa ob oc c v ns W) (hv : firF ob ⟨o.at_.name, o.at_.section_, false⟩ = none) (hs : 0 ≤ o.at_.section_) (hc : c < maxLen) (hf : spotK.fits ⟨o.at_.name, o.at_.section_, false⟩) :
  ∃ W', (Instr.mapUpdate 194 (.map (some (w.heap.size + 1))) (spotV ⟨o.at_.name, o.at_.section_, false⟩) (.bool o.at_.wide)).run Tryz.prog W = .ok () W' ∧ LSt w oa (ob ++ [o]) oc (c + 1) v ns W' ∧ W.grownBy W' (some (w.heap.size + 1)) := by
 obtain ⟨W', h1, h2, h3⟩ := h.fir.put Tryz.underlying194 hc hf (.bool o.at_.wide)
 obtain ⟨k1, k2, k3⟩ := h.grown h3 (by omega) (by omega)
 refine ⟨W', h1, ⟨(h.par.keep (h3.block _ h.par.lt (by simp))).mono (Nat.le_succ _), fir_put h2 hv hs, (h.seen.keep (h3.block _ h.seen.lt (by simp))).mono (Nat.le_succ _), k1, k2, k3⟩, h3⟩
theorem LSt.seenKeep (h : LSt w oa ob oc c v ns W) (hv : o.at_.name ∈ namesP oc) : LSt w oa ob (oc ++ [o]) c v ns W :=
 ⟨h.par, h.fir, seen_keep h.seen hv, h.own, h.bel, h.size⟩
theorem LSt.seenPut (h : LSt w oa ob oc c v ns W) (hv : ¬ o.at_.name ∈ namesP oc) (hc : c < maxLen) (hf : strK.fits o.at_.name) :
  ∃ W', (Instr.mapUpdate 195 (.map (some (w.heap.size + 2))) (.string (ba o.at_.name)) (.bool true)).run Tryz.prog W = .ok () W' ∧ LSt w oa ob (oc ++ [o]) (c + 1) v ns W' ∧ W.grownBy W' (some (w.heap.size + 2)) := by
 obtain ⟨W', h1, h2, h3⟩ := h.seen.put Tryz.underlying195 hc hf (.bool true)
 obtain ⟨k1, k2, k3⟩ := h.grown h3 (by omega) (by omega)
 refine ⟨W', h1, ⟨(h.par.keep (h3.block _ h.par.lt (by simp))).mono (Nat.le_succ _), (h.fir.keep (h3.block _ h.fir.lt (by simp))).mono (Nat.le_succ _), seen_put h2 hv, k1, k2, k3⟩, h3⟩
theorem LSt.push (h : LSt w oa ob oc c v ns W) {v' : Value} {s : List UInt8} (h1 : OwnStrs W' (w.heap.size + 3) v' (ns ++ [s])) (hg : W.grownBy W' v.ownBlock) : LSt w oa ob oc c v' (ns ++ [s]) W' := by
 have hk : ∀ b, b < w.heap.size + 3 → W'.heap[b]? = W.heap[b]? := fun b hb => hg.block b (by have := h.size; omega) fun e => by
  have := (h.own.lt b e.symm).1
  omega
 exact ⟨h.par.keep (hk _ (by omega)), h.fir.keep (hk _ (by omega)), h.seen.keep (hk _ (by omega)), h1, h.bel.grown hg h.bel.size fun q e => by have := (h.own.lt q e).1; omega, Nat.le_trans h.size hg.size⟩
end
def ListPost (w : World) (ps : List (List UInt8 × List UInt8)) (e : Ending) (w' : World) : Prop := ∃ v, e = .returned v ∧ OwnPars w' w.heap.size v ps ∧ Below w.heap.size w w'
theorem paramsP_take {f : List UInt8 → Option (List UInt8 × List UInt8)} {ns : List (List UInt8)} {k : Nat} (hk : k < ns.length) : (ns.take (k + 1)).filterMap f = (ns.take k).filterMap f ++ (f ns[k]).toList := by
 rw [List.take_succ_eq_append_getElem hk, List.filterMap_append]
 congr 1
end Go.Proofs.YthidbmeaccpjdaaGreatDoor
end
section
namespace Go.Proofs.YthidbmeaccpjdaaGreatDoor
open Go.RowKit
set_option linter.unusedVariables false
theorem seen_bool (ones : List One1) (x : List UInt8) : (seenF ones x).getD (.bool false) = .bool (decide (x ∈ namesP ones)) := by
 unfold seenF
 by_cases h : x ∈ namesP ones
 ·rw [if_pos h, decide_eq_true h]; rfl
 ·rw [if_neg h, decide_eq_false h]; rfl
theorem onesP_take {rs : List (List Tok)} {k : Nat} (hk : k < rs.length) : onesP (rs.take (k + 1)) = onesP (rs.take k) ++ (if (pairP rs[k]).1 = [] then [] else [⟨whereP (pairP rs[k]).1, (pairP rs[k]).2⟩]) := by
 rw [List.take_succ_eq_append_getElem hk, onesP_snoc]
structure L2St (w w3 : World) (f : List UInt8 → Option (List UInt8 × List UInt8)) (ns : List (List UInt8)) (k : Nat) (v : Value) (wr : World) : Prop where
 own : OwnPars wr w3.heap.size v ((ns.take k).filterMap f)
 bel : Below w3.heap.size w3 wr
def L1St (w : World) (rs : List (List Tok)) (k : Nat) (v : Value) (wr : World) : Prop :=
 ∃ c, c ≤ 3 * k ∧ LSt w (onesP (rs.take k)) (onesP (rs.take k)) (onesP (rs.take k)) c v (namesP (onesP (rs.take k))) wr
def BoxAt (W : World) (b : Nat) (nm : List UInt8) (sec : Int) (wd : Bool) : Prop :=
 W.cell? ⟨b, 0, none⟩ = some (.string (ba nm)) ∧ W.cell? ⟨b, 1, none⟩ = some (.int .i64 sec) ∧ W.cell? ⟨b, 2, none⟩ = some (.bool wd)
theorem BoxAt.block {W W' : World} {b : Nat} {nm : List UInt8} {sec : Int} {wd : Bool} (h : BoxAt W b nm sec wd) (hb : W'.heap[b]? = W.heap[b]?) : BoxAt W' b nm sec wd :=
 ⟨(World.cell?_of_block (a := ⟨b, 0, none⟩) hb).trans h.1, (World.cell?_of_block (a := ⟨b, 1, none⟩) hb).trans h.2.1, (World.cell?_of_block (a := ⟨b, 2, none⟩) hb).trans h.2.2⟩
theorem BoxAt.new (W : World) (nm : List UInt8) (sec : Int) (wd : Bool) (t : TypeId) : BoxAt (W.alloc (.cells #[.string (ba nm), .int .i64 sec, .bool wd] t)) W.heap.size nm sec wd := by
 refine ⟨?_, ?_, ?_⟩ <;> simp
theorem maps_new (w : World) : LSt w [] [] [] 0 (.slice none 0 0) [] (((w.alloc (.map #[] 0)).alloc (.map #[] 0)).alloc (.map #[] 0)) := by
 have h1 := MapL.made spotK w
 have h2 := MapL.made spotK (w.alloc (.map #[] 0))
 have h3 := MapL.made strK ((w.alloc (.map #[] 0)).alloc (.map #[] 0))
 have b1 : ∀ (W : World) (o : Obj), Below W.heap.size W (W.alloc o) := fun W o => (Below.refl _ _).alloc (Nat.le_refl _) o
 have s1 : (w.alloc (.map #[] 0)).heap.size = w.heap.size + 1 := by simp
 have s2 : ((w.alloc (.map #[] 0)).alloc (.map #[] 0)).heap.size = w.heap.size + 2 := by simp
 rw [s1] at h2
 rw [s2] at h3
 refine ⟨(((h1.below (b1 _ _)).below (b1 _ _)).congr fun x _ => rfl), ((h2.below (b1 _ _)).congr fun x _ => ?_), h3.congr fun x _ => rfl, OwnStrs.nil_ _ _, ((b1 _ _).trans ((b1 _ _).mono (by simp))).trans ((b1 _ _).mono (by simp; omega)), by simp⟩
 show (if x.wide = false ∧ 0 ≤ x.section_ then none else none) = none
 split <;> rfl
set_option maxRecDepth 100000 in
set_option maxHeartbeats 4000000 in
theorem list_any (rs : List (List Tok)) (A : Option Addr) (n c : Nat) (w : World) (hR : RowsIn w w.heap.size A n rs) (hn : n ≤ 1000000000) (hj : ∀ r ∈ rs, (joinP r).length ≤ 10000000 ∧ r.length ≤ 1000000000) (hT : Tabs w) :
  Calls Tryz.prog 154 #[.slice A n c] w (ListPost w (paramsP rs)) := by
 have HT := Lib.hid hT
 have HR := Lib.hid hR
 have HJ := Lib.hid hj
 have HN := Lib.hid hR.len
 have HM0 := Lib.hid (maps_new w)
 have HOK := Lib.hid (onesP_ok (fun r h => (hj r h).1))
 have HOL := Lib.hid (onesP_len rs)
 have hmm := @run_makeMap Tryz.prog
 clear hT hR hj
 go_enter Tryz.func154, Tryz.ntmps154
 go_wp2
 clear hmm
 go_loopw [5, 27] (fun v i wr => ∃ k : Nat, k ≤ n ∧ i = .int .i64 (k : Int) ∧ Hid (L1St w rs k v wr)) (fun _ i _ => n - (intOf i).toNat)
 case atStart => exact ⟨0, Nat.zero_le _, rfl, Lib.hid ⟨0, Nat.zero_le _, HM0.out⟩⟩
 case round =>
  obtain ⟨k, hk, rfl, HI⟩ := hrel
  by_cases hlt : k < n
  ·have hk2 : (k : Int) < n := by omega
   have hkl : k < rs.length := by rw [HN.out]; exact hlt
   obtain ⟨c0, hc0, hst⟩ := HI.out
   have hsz := hst.bel.size
   obtain ⟨ad, A', c', rfl, hbl, hcell, hcl, hcm, htk⟩ := HR.out.at_ hkl
   have hcell2 := (hst.bel.cell (p := ad.add k) (by rw [add_block]; exact hbl)).trans hcell
   have htk2 := (htk.below hst.bel).more hsz
   have HOT := Lib.hid (onesP_take hkl)
   have hrj := HJ.out _ (List.getElem_mem hkl)
   have hpl := pairP_len rs[k]
   obtain ⟨r, hr⟩ : ∃ r, rs[k] = r := ⟨_, rfl⟩
   rw [hr] at hcell2 hcl htk2 HOT hrj hpl
   have HPA := Lib.hid (pair_any r A' r.length c' wr htk2 hrj.2 hcl hcm (by omega) (HT.out.below hst.bel))
   obtain ⟨O, hO⟩ : ∃ O, onesP (rs.take k) = O := ⟨_, rfl⟩
   rw [hO] at hst HOT
   have HST := Lib.hid hst
   have HOLK := Lib.hid (show O.length ≤ 1000000000 by rw [← hO]; have := onesP_len (rs.take k); rw [List.length_take] at this; omega)
   have HC0 := Lib.hid hc0
   unfold PairPost at HPA
   obtain ⟨⟨q1, q2⟩, hq⟩ : ∃ q, pairP r = q := ⟨_, rfl⟩
   rw [hq] at HPA HOT hpl
   have hql1 : q1.length ≤ 10000000 := by have h1 : q1.length ≤ (joinP r).length := hpl.1; omega
   have hql2 : q2.length ≤ 10000000 := by have h1 : q2.length ≤ (joinP r).length := hpl.2; omega
   have HQ1 := Lib.hid hql1
   have HQ2 := Lib.hid hql2
   clear HI hst hr hq hcell htk htk2 hrj hpl hcl hcm hbl hkl hql1 hql2 hO hc0
   by_cases hemp : q1 = []
   ·subst hemp
    have HO2 := Lib.hid (show onesP (rs.take (k + 1)) = O by rw [HOT.out, if_pos rfl, List.append_nil])
    have g2 : ((ba ([] : List UInt8)).toList == []) = true := by rw [ba_toList]; rfl
    have g3 : (ba ([] : List UInt8)).toList = [] := by rw [ba_toList]
    go_wp2_with fail
    refine HPA.out.mono ?_
    rintro e w1 ⟨rfl, hb1⟩
    have HS1 := Lib.hid (HST.out.below hb1)
    clear hb1
    go_wp2
    go_roundw
    case rel => exact ⟨k + 1, by omega, by go_num, Lib.hid ⟨c0, by have := HC0.out; omega, by rw [HO2.out]; exact HS1.out⟩⟩
    case measure => simp [intOf] <;> omega
   ·have HO2 := Lib.hid (show onesP (rs.take (k + 1)) = O ++ [⟨whereP q1, q2⟩] by rw [HOT.out, if_neg hemp])
    have g2 : ((ba q1).toList == []) = false := by rw [ba_toList]; simpa using hemp
    have g3 : ¬ (ba q1).toList = [] := by rw [ba_toList]; exact hemp
    have HWA := Lib.hid (fun W h => where_any q1 W (by have := HQ1.out; omega) h)
    have hwl := whereP_len q1
    have hws := whereP_sec q1
    unfold WherePost at HWA
    obtain ⟨⟨nm, sec, wd⟩, hwp⟩ : ∃ q, whereP q1 = q := ⟨_, rfl⟩
    simp only [hwp, spotV] at HWA
    rw [hwp] at HO2 hwl hws
    have hs0 : -1 ≤ sec := hws.1
    have hs1 : sec ≤ 63 := hws.2
    have HNM := Lib.hid (show nm.length ≤ 10000000 by have h1 : nm.length ≤ q1.length := hwl; have := HQ1.out; omega)
    have HSB := Lib.hid (And.intro hs0 hs1)
    clear hemp hwp hwl hws hs0 hs1
    go_wp2_with fail
    refine HPA.out.mono ?_
    rintro e w1 ⟨rfl, hb1⟩
    have HS1 := Lib.hid (HST.out.below hb1)
    clear hb1
    go_wp2_with fail
    refine (HWA.out w1 (HT.out.below HS1.out.bel)).mono ?_
    rintro e w2 ⟨rfl, hb2⟩
    have HS2 := Lib.hid (HS1.out.below hb2)
    clear hb2
    have HX := Lib.hid (HS2.out.below ((Below.refl _ _).alloc (Nat.le_refl _) (.cells #[.string (ba nm), .int .i64 sec, .bool wd] 198)))
    have HBX1 := Lib.hid (BoxAt.new w2 nm sec wd 198)
    have hl1 := HX.out.par.look_ok Tryz.underlying193 (zero_str (w2.alloc (.cells #[.string (ba nm), .int .i64 sec, .bool wd] 198))) (x := ⟨nm, sec, wd⟩) (fits_spot (by have := HNM.out; omega) HSB.out.1 HSB.out.2)
    unfold spotK at hl1
    simp only [spotV] at hl1
    cases hP : parF O ⟨nm, sec, wd⟩ with
    | some u =>
     rw [hP] at hl1
     have H2 := Lib.hid (HX.out.parKeep (o := ⟨⟨nm, sec, wd⟩, q2⟩) hP)
     have HBX2 := HBX1
     have HZ2 := Lib.hid (show w2.heap.size < (w2.alloc (.cells #[.string (ba nm), .int .i64 sec, .bool wd] 198)).heap.size by simp)
     clear hP
     have H3 := Lib.hid (H2.out.below ((Below.refl _ _).alloc (Nat.le_refl _) (.cells #[.string (ba nm), .int .i64 sec, .bool false] 198)))
     have hz3 : w2.heap.size < ((w2.alloc (.cells #[.string (ba nm), .int .i64 sec, .bool wd] 198)).alloc (.cells #[.string (ba nm), .int .i64 sec, .bool false] 198)).heap.size := by have := HZ2.out; simp at this ⊢; omega
     have HZ3 := Lib.hid hz3
     clear hz3
     have HBX3 := Lib.hid (HBX2.out.block (heap_alloc_old (w2.alloc (.cells #[.string (ba nm), .int .i64 sec, .bool wd] 198)) (.cells #[.string (ba nm), .int .i64 sec, .bool false] 198) HZ2.out))
     obtain ⟨x20, x21, x22⟩ := HBX2.out
     obtain ⟨x30, x31, x32⟩ := HBX3.out
     by_cases hS : 0 ≤ sec
     ·have hl2 := H3.out.fir.look_ok Tryz.underlying194 (zero_bool ((w2.alloc (.cells #[.string (ba nm), .int .i64 sec, .bool wd] 198)).alloc (.cells #[.string (ba nm), .int .i64 sec, .bool false] 198))) (x := ⟨nm, sec, false⟩) (fits_spot (by have := HNM.out; omega) HSB.out.1 HSB.out.2)
      unfold spotK at hl2
      simp only [spotV] at hl2
      cases hF : firF O ⟨nm, sec, false⟩ with
      | some u =>
       rw [hF] at hl2
       have H4 := Lib.hid (H3.out.firKeep (o := ⟨⟨nm, sec, wd⟩, q2⟩) hF)
       have HBX4 := HBX3
       have HZ4 := HZ3
       clear hF
       have hl3 := H4.out.seen.look Tryz.underlying195 (zero_bool ((w2.alloc (.cells #[.string (ba nm), .int .i64 sec, .bool wd] 198)).alloc (.cells #[.string (ba nm), .int .i64 sec, .bool false] 198))) (x := nm) (by show nm.length ≤ maxLen; have := HNM.out; simp only [maxLen]; omega)
       rw [seen_bool] at hl3
       unfold strK at hl3
       obtain ⟨x40, x41, x42⟩ := HBX4.out
       by_cases hN : nm ∈ namesP O
       ·rw [decide_eq_true hN] at hl3
        have H5 := Lib.hid (H4.out.seenKeep (o := ⟨⟨nm, sec, wd⟩, q2⟩) hN)
        have HNS := Lib.hid (show namesP (O ++ [⟨⟨nm, sec, wd⟩, q2⟩]) = namesP O by rw [namesP_snoc, if_pos hN])
        clear hN
        go_wp2
        go_roundw
        case rel => exact ⟨k + 1, by omega, by go_num, Lib.hid ⟨c0, by have := HC0.out; omega, by rw [HO2.out, HNS.out]; exact H5.out⟩⟩
        case measure => simp [intOf] <;> omega
       ·rw [decide_eq_false hN] at hl3
        obtain ⟨W5, hr5, hs5, hg5⟩ := H4.out.seenPut (o := ⟨⟨nm, sec, wd⟩, q2⟩) hN (by have := HC0.out; simp only [maxLen]; omega) (by show nm.length ≤ maxLen; have := HNM.out; simp only [maxLen]; omega)
        have hr5b : (Instr.mapUpdate 195 (.map (some (w.heap.size + 2))) (.string (ba nm)) (.bool true)).run Tryz.prog ((w2.alloc (.cells #[.string (ba nm), .int .i64 sec, .bool wd] 198)).alloc (.cells #[.string (ba nm), .int .i64 sec, .bool false] 198)) = .ok () W5 := hr5
        have HBX5 := Lib.hid (HBX4.out.block (hg5.block w2.heap.size (by exact HZ4.out) (by have := HS2.out.size; simp; omega)))
        obtain ⟨x50, x51, x52⟩ := HBX5.out
        have H5 := Lib.hid hs5
        have HNS := Lib.hid (show namesP (O ++ [⟨⟨nm, sec, wd⟩, q2⟩]) = namesP O ++ [nm] by rw [namesP_snoc, if_neg hN])
        have HNL := Lib.hid (show (namesP O).length < 1099511627776 by have h1 := namesP_len O []; have h2 := HOLK.out; unfold namesP; simp only [List.length_nil] at h1; omega)
        clear hN hr5 hs5 hg5
        go_wp2_with (at_builtin; go_must (refine wpList_pushStr (W := W5) H5.out.own H5.out.size HNL.out rfl (.tmp 79) (.tmp 82) 37 1 rfl Tryz.underlying37 rfl (by show Value.slice (some ⟨W5.heap.size, 0, none⟩) 1 1 = _; simp) ?_); intro v6 w6 h1 h2 h3; (have H6 := Lib.hid (H5.out.push h1 h2); clear h1 h2 h3))
        go_roundw
        case rel => exact ⟨k + 1, by omega, by go_num, Lib.hid ⟨c0 + 1, by have := HC0.out; omega, by rw [HO2.out, HNS.out]; exact H6.out⟩⟩
        case measure => simp [intOf] <;> omega
      | none =>
       rw [hF] at hl2
       obtain ⟨W4, hr4, hs4, hg4⟩ := H3.out.firPut (o := ⟨⟨nm, sec, wd⟩, q2⟩) hF hS (by have := HC0.out; simp only [maxLen]; omega) (fits_spot (by have := HNM.out; show nm.length ≤ _; omega) HSB.out.1 HSB.out.2)
       have hr4b : (Instr.mapUpdate 194 (.map (some (w.heap.size + 1))) (.agg #[.string (ba nm), .int .i64 sec, .bool false]) (.bool wd)).run Tryz.prog ((w2.alloc (.cells #[.string (ba nm), .int .i64 sec, .bool wd] 198)).alloc (.cells #[.string (ba nm), .int .i64 sec, .bool false] 198)) = .ok () W4 := hr4
       have HBX4 := Lib.hid (HBX3.out.block (hg4.block w2.heap.size HZ3.out (by have := HS2.out.size; simp; omega)))
       have HZ4 := Lib.hid (show w2.heap.size < W4.heap.size from Nat.lt_of_lt_of_le HZ3.out hg4.size)
       have H4 := Lib.hid hs4
       clear hF hr4 hs4 hg4
       have hl3 := H4.out.seen.look Tryz.underlying195 (zero_bool W4) (x := nm) (by show nm.length ≤ maxLen; have := HNM.out; simp only [maxLen]; omega)
       rw [seen_bool] at hl3
       unfold strK at hl3
       obtain ⟨x40, x41, x42⟩ := HBX4.out
       by_cases hN : nm ∈ namesP O
       ·rw [decide_eq_true hN] at hl3
        have H5 := Lib.hid (H4.out.seenKeep (o := ⟨⟨nm, sec, wd⟩, q2⟩) hN)
        have HNS := Lib.hid (show namesP (O ++ [⟨⟨nm, sec, wd⟩, q2⟩]) = namesP O by rw [namesP_snoc, if_pos hN])
        clear hN
        go_wp2
        go_roundw
        case rel => exact ⟨k + 1, by omega, by go_num, Lib.hid ⟨c0 + 1, by have := HC0.out; omega, by rw [HO2.out, HNS.out]; exact H5.out⟩⟩
        case measure => simp [intOf] <;> omega
       ·rw [decide_eq_false hN] at hl3
        obtain ⟨W5, hr5, hs5, hg5⟩ := H4.out.seenPut (o := ⟨⟨nm, sec, wd⟩, q2⟩) hN (by have := HC0.out; simp only [maxLen]; omega) (by show nm.length ≤ maxLen; have := HNM.out; simp only [maxLen]; omega)
        have hr5b : (Instr.mapUpdate 195 (.map (some (w.heap.size + 2))) (.string (ba nm)) (.bool true)).run Tryz.prog W4 = .ok () W5 := hr5
        have HBX5 := Lib.hid (HBX4.out.block (hg5.block w2.heap.size (by exact HZ4.out) (by have := HS2.out.size; simp; omega)))
        obtain ⟨x50, x51, x52⟩ := HBX5.out
        have H5 := Lib.hid hs5
        have HNS := Lib.hid (show namesP (O ++ [⟨⟨nm, sec, wd⟩, q2⟩]) = namesP O ++ [nm] by rw [namesP_snoc, if_neg hN])
        have HNL := Lib.hid (show (namesP O).length < 1099511627776 by have h1 := namesP_len O []; have h2 := HOLK.out; unfold namesP; simp only [List.length_nil] at h1; omega)
        clear hN hr5 hs5 hg5
        go_wp2_with (at_builtin; go_must (refine wpList_pushStr (W := W5) H5.out.own H5.out.size HNL.out rfl (.tmp 79) (.tmp 82) 37 1 rfl Tryz.underlying37 rfl (by show Value.slice (some ⟨W5.heap.size, 0, none⟩) 1 1 = _; simp) ?_); intro v6 w6 h1 h2 h3; (have H6 := Lib.hid (H5.out.push h1 h2); clear h1 h2 h3))
        go_roundw
        case rel => exact ⟨k + 1, by omega, by go_num, Lib.hid ⟨c0 + 1 + 1, by have := HC0.out; omega, by rw [HO2.out, HNS.out]; exact H6.out⟩⟩
        case measure => simp [intOf] <;> omega
     ·have H4 := Lib.hid (H3.out.firSkip (o := ⟨⟨nm, sec, wd⟩, q2⟩) hS)
      have HBX4 := HBX3
      have HZ4 := HZ3
      have hl3 := H4.out.seen.look Tryz.underlying195 (zero_bool ((w2.alloc (.cells #[.string (ba nm), .int .i64 sec, .bool wd] 198)).alloc (.cells #[.string (ba nm), .int .i64 sec, .bool false] 198))) (x := nm) (by show nm.length ≤ maxLen; have := HNM.out; simp only [maxLen]; omega)
      rw [seen_bool] at hl3
      unfold strK at hl3
      obtain ⟨x40, x41, x42⟩ := HBX4.out
      by_cases hN : nm ∈ namesP O
      ·rw [decide_eq_true hN] at hl3
       have H5 := Lib.hid (H4.out.seenKeep (o := ⟨⟨nm, sec, wd⟩, q2⟩) hN)
       have HNS := Lib.hid (show namesP (O ++ [⟨⟨nm, sec, wd⟩, q2⟩]) = namesP O by rw [namesP_snoc, if_pos hN])
       clear hN
       go_wp2
       go_roundw
       case rel => exact ⟨k + 1, by omega, by go_num, Lib.hid ⟨c0, by have := HC0.out; omega, by rw [HO2.out, HNS.out]; exact H5.out⟩⟩
       case measure => simp [intOf] <;> omega
      ·rw [decide_eq_false hN] at hl3
       obtain ⟨W5, hr5, hs5, hg5⟩ := H4.out.seenPut (o := ⟨⟨nm, sec, wd⟩, q2⟩) hN (by have := HC0.out; simp only [maxLen]; omega) (by show nm.length ≤ maxLen; have := HNM.out; simp only [maxLen]; omega)
       have hr5b : (Instr.mapUpdate 195 (.map (some (w.heap.size + 2))) (.string (ba nm)) (.bool true)).run Tryz.prog ((w2.alloc (.cells #[.string (ba nm), .int .i64 sec, .bool wd] 198)).alloc (.cells #[.string (ba nm), .int .i64 sec, .bool false] 198)) = .ok () W5 := hr5
       have HBX5 := Lib.hid (HBX4.out.block (hg5.block w2.heap.size (by exact HZ4.out) (by have := HS2.out.size; simp; omega)))
       obtain ⟨x50, x51, x52⟩ := HBX5.out
       have H5 := Lib.hid hs5
       have HNS := Lib.hid (show namesP (O ++ [⟨⟨nm, sec, wd⟩, q2⟩]) = namesP O ++ [nm] by rw [namesP_snoc, if_neg hN])
       have HNL := Lib.hid (show (namesP O).length < 1099511627776 by have h1 := namesP_len O []; have h2 := HOLK.out; unfold namesP; simp only [List.length_nil] at h1; omega)
       clear hN hr5 hs5 hg5
       go_wp2_with (at_builtin; go_must (refine wpList_pushStr (W := W5) H5.out.own H5.out.size HNL.out rfl (.tmp 79) (.tmp 82) 37 1 rfl Tryz.underlying37 rfl (by show Value.slice (some ⟨W5.heap.size, 0, none⟩) 1 1 = _; simp) ?_); intro v6 w6 h1 h2 h3; (have H6 := Lib.hid (H5.out.push h1 h2); clear h1 h2 h3))
       go_roundw
       case rel => exact ⟨k + 1, by omega, by go_num, Lib.hid ⟨c0 + 1, by have := HC0.out; omega, by rw [HO2.out, HNS.out]; exact H6.out⟩⟩
       case measure => simp [intOf] <;> omega
    | none =>
     rw [hP] at hl1
     obtain ⟨W2, hr2, hs2, hg2⟩ := HX.out.parPut (o := ⟨⟨nm, sec, wd⟩, q2⟩) hP (by have := HC0.out; simp only [maxLen]; omega) (fits_spot (by have := HNM.out; show nm.length ≤ _; omega) HSB.out.1 HSB.out.2)
     have hr2b : (Instr.mapUpdate 193 (.map (some w.heap.size)) (.agg #[.string (ba nm), .int .i64 sec, .bool wd]) (.string (ba q2))).run Tryz.prog (w2.alloc (.cells #[.string (ba nm), .int .i64 sec, .bool wd] 198)) = .ok () W2 := hr2
     have HBX2 := Lib.hid (HBX1.out.block (hg2.block w2.heap.size (by simp) (by have := HS2.out.size; simp; omega)))
     have HZ2 := Lib.hid (show w2.heap.size < W2.heap.size from by have := hg2.size; simp at this; omega)
     have H2 := Lib.hid hs2
     clear hP hr2 hs2 hg2
     have H3 := Lib.hid (H2.out.below ((Below.refl _ _).alloc (Nat.le_refl _) (.cells #[.string (ba nm), .int .i64 sec, .bool false] 198)))
     have hz3 : w2.heap.size < (W2.alloc (.cells #[.string (ba nm), .int .i64 sec, .bool false] 198)).heap.size := by have := HZ2.out; simp at this ⊢; omega
     have HZ3 := Lib.hid hz3
     clear hz3
     have HBX3 := Lib.hid (HBX2.out.block (heap_alloc_old W2 (.cells #[.string (ba nm), .int .i64 sec, .bool false] 198) HZ2.out))
     obtain ⟨x20, x21, x22⟩ := HBX2.out
     obtain ⟨x30, x31, x32⟩ := HBX3.out
     by_cases hS : 0 ≤ sec
     ·have hl2 := H3.out.fir.look_ok Tryz.underlying194 (zero_bool (W2.alloc (.cells #[.string (ba nm), .int .i64 sec, .bool false] 198))) (x := ⟨nm, sec, false⟩) (fits_spot (by have := HNM.out; omega) HSB.out.1 HSB.out.2)
      unfold spotK at hl2
      simp only [spotV] at hl2
      cases hF : firF O ⟨nm, sec, false⟩ with
      | some u =>
       rw [hF] at hl2
       have H4 := Lib.hid (H3.out.firKeep (o := ⟨⟨nm, sec, wd⟩, q2⟩) hF)
       have HBX4 := HBX3
       have HZ4 := HZ3
       clear hF
       have hl3 := H4.out.seen.look Tryz.underlying195 (zero_bool (W2.alloc (.cells #[.string (ba nm), .int .i64 sec, .bool false] 198))) (x := nm) (by show nm.length ≤ maxLen; have := HNM.out; simp only [maxLen]; omega)
       rw [seen_bool] at hl3
       unfold strK at hl3
       obtain ⟨x40, x41, x42⟩ := HBX4.out
       by_cases hN : nm ∈ namesP O
       ·rw [decide_eq_true hN] at hl3
        have H5 := Lib.hid (H4.out.seenKeep (o := ⟨⟨nm, sec, wd⟩, q2⟩) hN)
        have HNS := Lib.hid (show namesP (O ++ [⟨⟨nm, sec, wd⟩, q2⟩]) = namesP O by rw [namesP_snoc, if_pos hN])
        clear hN
        go_wp2
        go_roundw
        case rel => exact ⟨k + 1, by omega, by go_num, Lib.hid ⟨c0 + 1, by have := HC0.out; omega, by rw [HO2.out, HNS.out]; exact H5.out⟩⟩
        case measure => simp [intOf] <;> omega
       ·rw [decide_eq_false hN] at hl3
        obtain ⟨W5, hr5, hs5, hg5⟩ := H4.out.seenPut (o := ⟨⟨nm, sec, wd⟩, q2⟩) hN (by have := HC0.out; simp only [maxLen]; omega) (by show nm.length ≤ maxLen; have := HNM.out; simp only [maxLen]; omega)
        have hr5b : (Instr.mapUpdate 195 (.map (some (w.heap.size + 2))) (.string (ba nm)) (.bool true)).run Tryz.prog (W2.alloc (.cells #[.string (ba nm), .int .i64 sec, .bool false] 198)) = .ok () W5 := hr5
        have HBX5 := Lib.hid (HBX4.out.block (hg5.block w2.heap.size (by exact HZ4.out) (by have := HS2.out.size; simp; omega)))
        obtain ⟨x50, x51, x52⟩ := HBX5.out
        have H5 := Lib.hid hs5
        have HNS := Lib.hid (show namesP (O ++ [⟨⟨nm, sec, wd⟩, q2⟩]) = namesP O ++ [nm] by rw [namesP_snoc, if_neg hN])
        have HNL := Lib.hid (show (namesP O).length < 1099511627776 by have h1 := namesP_len O []; have h2 := HOLK.out; unfold namesP; simp only [List.length_nil] at h1; omega)
        clear hN hr5 hs5 hg5
        go_wp2_with (at_builtin; go_must (refine wpList_pushStr (W := W5) H5.out.own H5.out.size HNL.out rfl (.tmp 79) (.tmp 82) 37 1 rfl Tryz.underlying37 rfl (by show Value.slice (some ⟨W5.heap.size, 0, none⟩) 1 1 = _; simp) ?_); intro v6 w6 h1 h2 h3; (have H6 := Lib.hid (H5.out.push h1 h2); clear h1 h2 h3))
        go_roundw
        case rel => exact ⟨k + 1, by omega, by go_num, Lib.hid ⟨c0 + 1 + 1, by have := HC0.out; omega, by rw [HO2.out, HNS.out]; exact H6.out⟩⟩
        case measure => simp [intOf] <;> omega
      | none =>
       rw [hF] at hl2
       obtain ⟨W4, hr4, hs4, hg4⟩ := H3.out.firPut (o := ⟨⟨nm, sec, wd⟩, q2⟩) hF hS (by have := HC0.out; simp only [maxLen]; omega) (fits_spot (by have := HNM.out; show nm.length ≤ _; omega) HSB.out.1 HSB.out.2)
       have hr4b : (Instr.mapUpdate 194 (.map (some (w.heap.size + 1))) (.agg #[.string (ba nm), .int .i64 sec, .bool false]) (.bool wd)).run Tryz.prog (W2.alloc (.cells #[.string (ba nm), .int .i64 sec, .bool false] 198)) = .ok () W4 := hr4
       have HBX4 := Lib.hid (HBX3.out.block (hg4.block w2.heap.size HZ3.out (by have := HS2.out.size; simp; omega)))
       have HZ4 := Lib.hid (show w2.heap.size < W4.heap.size from Nat.lt_of_lt_of_le HZ3.out hg4.size)
       have H4 := Lib.hid hs4
       clear hF hr4 hs4 hg4
       have hl3 := H4.out.seen.look Tryz.underlying195 (zero_bool W4) (x := nm) (by show nm.length ≤ maxLen; have := HNM.out; simp only [maxLen]; omega)
       rw [seen_bool] at hl3
       unfold strK at hl3
       obtain ⟨x40, x41, x42⟩ := HBX4.out
       by_cases hN : nm ∈ namesP O
       ·rw [decide_eq_true hN] at hl3
        have H5 := Lib.hid (H4.out.seenKeep (o := ⟨⟨nm, sec, wd⟩, q2⟩) hN)
        have HNS := Lib.hid (show namesP (O ++ [⟨⟨nm, sec, wd⟩, q2⟩]) = namesP O by rw [namesP_snoc, if_pos hN])
        clear hN
        go_wp2
        go_roundw
        case rel => exact ⟨k + 1, by omega, by go_num, Lib.hid ⟨c0 + 1 + 1, by have := HC0.out; omega, by rw [HO2.out, HNS.out]; exact H5.out⟩⟩
        case measure => simp [intOf] <;> omega
       ·rw [decide_eq_false hN] at hl3
        obtain ⟨W5, hr5, hs5, hg5⟩ := H4.out.seenPut (o := ⟨⟨nm, sec, wd⟩, q2⟩) hN (by have := HC0.out; simp only [maxLen]; omega) (by show nm.length ≤ maxLen; have := HNM.out; simp only [maxLen]; omega)
        have hr5b : (Instr.mapUpdate 195 (.map (some (w.heap.size + 2))) (.string (ba nm)) (.bool true)).run Tryz.prog W4 = .ok () W5 := hr5
        have HBX5 := Lib.hid (HBX4.out.block (hg5.block w2.heap.size (by exact HZ4.out) (by have := HS2.out.size; simp; omega)))
        obtain ⟨x50, x51, x52⟩ := HBX5.out
        have H5 := Lib.hid hs5
        have HNS := Lib.hid (show namesP (O ++ [⟨⟨nm, sec, wd⟩, q2⟩]) = namesP O ++ [nm] by rw [namesP_snoc, if_neg hN])
        have HNL := Lib.hid (show (namesP O).length < 1099511627776 by have h1 := namesP_len O []; have h2 := HOLK.out; unfold namesP; simp only [List.length_nil] at h1; omega)
        clear hN hr5 hs5 hg5
        go_wp2_with (at_builtin; go_must (refine wpList_pushStr (W := W5) H5.out.own H5.out.size HNL.out rfl (.tmp 79) (.tmp 82) 37 1 rfl Tryz.underlying37 rfl (by show Value.slice (some ⟨W5.heap.size, 0, none⟩) 1 1 = _; simp) ?_); intro v6 w6 h1 h2 h3; (have H6 := Lib.hid (H5.out.push h1 h2); clear h1 h2 h3))
        go_roundw
        case rel => exact ⟨k + 1, by omega, by go_num, Lib.hid ⟨c0 + 1 + 1 + 1, by have := HC0.out; omega, by rw [HO2.out, HNS.out]; exact H6.out⟩⟩
        case measure => simp [intOf] <;> omega
     ·have H4 := Lib.hid (H3.out.firSkip (o := ⟨⟨nm, sec, wd⟩, q2⟩) hS)
      have HBX4 := HBX3
      have HZ4 := HZ3
      have hl3 := H4.out.seen.look Tryz.underlying195 (zero_bool (W2.alloc (.cells #[.string (ba nm), .int .i64 sec, .bool false] 198))) (x := nm) (by show nm.length ≤ maxLen; have := HNM.out; simp only [maxLen]; omega)
      rw [seen_bool] at hl3
      unfold strK at hl3
      obtain ⟨x40, x41, x42⟩ := HBX4.out
      by_cases hN : nm ∈ namesP O
      ·rw [decide_eq_true hN] at hl3
       have H5 := Lib.hid (H4.out.seenKeep (o := ⟨⟨nm, sec, wd⟩, q2⟩) hN)
       have HNS := Lib.hid (show namesP (O ++ [⟨⟨nm, sec, wd⟩, q2⟩]) = namesP O by rw [namesP_snoc, if_pos hN])
       clear hN
       go_wp2
       go_roundw
       case rel => exact ⟨k + 1, by omega, by go_num, Lib.hid ⟨c0 + 1, by have := HC0.out; omega, by rw [HO2.out, HNS.out]; exact H5.out⟩⟩
       case measure => simp [intOf] <;> omega
      ·rw [decide_eq_false hN] at hl3
       obtain ⟨W5, hr5, hs5, hg5⟩ := H4.out.seenPut (o := ⟨⟨nm, sec, wd⟩, q2⟩) hN (by have := HC0.out; simp only [maxLen]; omega) (by show nm.length ≤ maxLen; have := HNM.out; simp only [maxLen]; omega)
       have hr5b : (Instr.mapUpdate 195 (.map (some (w.heap.size + 2))) (.string (ba nm)) (.bool true)).run Tryz.prog (W2.alloc (.cells #[.string (ba nm), .int .i64 sec, .bool false] 198)) = .ok () W5 := hr5
       have HBX5 := Lib.hid (HBX4.out.block (hg5.block w2.heap.size (by exact HZ4.out) (by have := HS2.out.size; simp; omega)))
       obtain ⟨x50, x51, x52⟩ := HBX5.out
       have H5 := Lib.hid hs5
       have HNS := Lib.hid (show namesP (O ++ [⟨⟨nm, sec, wd⟩, q2⟩]) = namesP O ++ [nm] by rw [namesP_snoc, if_neg hN])
       have HNL := Lib.hid (show (namesP O).length < 1099511627776 by have h1 := namesP_len O []; have h2 := HOLK.out; unfold namesP; simp only [List.length_nil] at h1; omega)
       clear hN hr5 hs5 hg5
       go_wp2_with (at_builtin; go_must (refine wpList_pushStr (W := W5) H5.out.own H5.out.size HNL.out rfl (.tmp 79) (.tmp 82) 37 1 rfl Tryz.underlying37 rfl (by show Value.slice (some ⟨W5.heap.size, 0, none⟩) 1 1 = _; simp) ?_); intro v6 w6 h1 h2 h3; (have H6 := Lib.hid (H5.out.push h1 h2); clear h1 h2 h3))
       go_roundw
       case rel => exact ⟨k + 1, by omega, by go_num, Lib.hid ⟨c0 + 1 + 1, by have := HC0.out; omega, by rw [HO2.out, HNS.out]; exact H6.out⟩⟩
       case measure => simp [intOf] <;> omega
  ·obtain rfl : k = n := by omega
   obtain ⟨c0, hc0, hst⟩ := HI.out
   rw [List.take_of_length_le (by rw [HN.out]; exact Nat.le_refl _)] at hst
   have HPAR := Lib.hid (show paramsP rs = (namesP (onesP rs)).filterMap (fun n => (valueP (onesP rs) n).map fun v => (n, v)) from rfl)
   obtain ⟨O, hO⟩ : ∃ O, onesP rs = O := ⟨_, rfl⟩
   rw [hO] at hst HPAR HOK HOL
   have HNMS := Lib.hid (show ∀ x ∈ namesP O, x.length ≤ 10000000 from fun x hx => by
    rcases namesP_mem O [] x hx with h | ⟨o, ho, rfl⟩
    ·cases h
    ·exact (HOK.out o ho).2)
   have HNL := Lib.hid (show (namesP O).length ≤ 1000000000 by have h1 := namesP_len O []; have h2 := HOL.out; have h3 := HN.out; unfold namesP; simp only [List.length_nil] at h1; omega)
   obtain ⟨f, hf⟩ : ∃ f : List UInt8 → Option (List UInt8 × List UInt8), (fun n => (valueP O n).map fun v => (n, v)) = f := ⟨_, rfl⟩
   have HF := Lib.hid (show ∀ n, f n = (valueP O n).map fun v => (n, v) from fun n => by rw [← hf])
   rw [hf] at HPAR
   obtain ⟨ns, hns⟩ : ∃ ns, namesP O = ns := ⟨_, rfl⟩
   rw [hns] at hst HPAR HNMS HNL
   obtain ⟨A5, c5, rfl, -, -, hS⟩ := hst.own.strs
   obtain ⟨m, hm⟩ : ∃ m, ns.length = m := ⟨_, rfl⟩
   have HML := Lib.hid hm
   rw [hm] at HNL hS ⊢
   have hmn := HNL.out
   have HSS := Lib.hid hS.2
   have HPM := Lib.hid (show PMaps wr O w.heap.size (w.heap.size + 1) from ⟨⟨c0, hst.par⟩, c0, hst.fir⟩)
   have HBW := Lib.hid hst.bel
   clear hO hf hns hm hst HI hc0 hS
   obtain ⟨w3, rfl⟩ : ∃ w3, w3 = wr := ⟨_, rfl⟩
   have HPS := Lib.hid HBW.out.size
   go_wp2
   go_loopw [17, 87] (fun v i wr => ∃ k : Nat, k ≤ m ∧ i = .int .i64 (k : Int) ∧ Hid (L2St w w3 f ns k v wr)) (fun _ i _ => m - (intOf i).toNat)
   case atStart => exact ⟨0, Nat.zero_le _, rfl, Lib.hid ⟨OwnPars.nil_ _ _, Below.refl _ _⟩⟩
   case round =>
    obtain ⟨j, hj, rfl, HL⟩ := hrel
    have hszj := HL.out.bel.size
    by_cases hjm : j < m
    ·have hj2 : (j : Int) < m := by omega
     have hjl : j < ns.length := by rw [HML.out]; exact hjm
     obtain ⟨ad5, u5, rfl, hbl5, hu5, hcell5⟩ := HSS.out.at_ (k := j) (by unfold sv; rw [List.length_map]; exact hjl)
     have hu6 : u5 = .string (ba ns[j]) := by
      unfold sv at hu5
      rw [List.getElem?_map, List.getElem?_eq_getElem hjl] at hu5
      injection hu5 with hu5
      exact hu5.symm
     subst hu6
     have hcell6 := (HL.out.bel.cell (p := ad5.add j) (by rw [add_block]; exact hbl5)).trans hcell5
     have hxl := HNMS.out _ (List.getElem_mem hjl)
     have HTK := Lib.hid (paramsP_take (f := f) hjl)
     obtain ⟨x, hx⟩ : ∃ x, ns[j] = x := ⟨_, rfl⟩
     rw [hx] at hcell6 hxl HTK
     have HVA := Lib.hid (value_any O x w.heap.size (w.heap.size + 1) wr (HPM.out.below HL.out.bel) (by omega) HOK.out (HT.out.below (HBW.out.trans (HL.out.bel.mono HPS.out))))
     unfold ValPost at HVA
     rw [HF.out] at HTK
     have HOWN := Lib.hid HL.out.own
     have HBL := Lib.hid HL.out.bel
     have HLN := Lib.hid (show ((ns.take j).filterMap f).length ≤ 1000000000 by
      have h1 := List.length_filterMap_le f (ns.take j)
      rw [List.length_take] at h1
      omega)
     clear hbl5 hu5 hcell5 hjl hxl hx HL
     cases hV : valueP O x with
     | none =>
      rw [hV] at HVA HTK
      clear hV
      go_wp2_with fail
      refine HVA.out.mono ?_
      rintro e w4 ⟨rfl, hb4⟩
      have HN4 := Lib.hid (show L2St w w3 f ns (j + 1) _ w4 from ⟨by rw [HTK.out]; simpa using HOWN.out.below hb4, HBL.out.trans (hb4.mono hszj)⟩)
      clear hb4
      go_wp2
      go_roundw
      case rel => exact ⟨j + 1, by omega, by go_num, HN4⟩
      case measure => simp [intOf] <;> omega
     | some y =>
      rw [hV] at HVA HTK
      clear hV
      go_wp2_with fail
      refine HVA.out.mono ?_
      rintro e w4 ⟨rfl, hb4⟩
      have HO4 := Lib.hid (HOWN.out.below hb4)
      have HB4 := Lib.hid (HBL.out.trans (hb4.mono hszj))
      have hs4 : w3.heap.size ≤ w4.heap.size := HB4.out.size
      clear hb4
      go_wp2_with (at_builtin; go_must (refine wpList_pushPar (W := w4) HO4.out hs4 trivial HLN.out rfl (.tmp 99) (.tmp 103) 1 rfl rfl (by show Value.slice (some ⟨w4.heap.size, 0, none⟩) 1 1 = _; simp) ?_); intro v6 w6 h1 h2; (have HN6 := Lib.hid (show L2St w w3 f ns (j + 1) v6 w6 from ⟨by rw [HTK.out]; exact h1, HB4.out.grown h2 hs4 fun q e => (HO4.out.row.lt q e).1⟩); clear h1 h2))
      go_roundw
      case rel => exact ⟨j + 1, by omega, by go_num, HN6⟩
      case measure => simp [intOf] <;> omega
    ·obtain rfl : j = m := by omega
     have HL9 := Lib.hid (show OwnPars wr w3.heap.size _ (paramsP rs) by
      rw [HPAR.out]
      have := HL.out.own
      rw [List.take_of_length_le (by rw [HML.out]; exact Nat.le_refl _)] at this
      exact this)
     have HB9 := Lib.hid (HBW.out.trans (HL.out.bel.mono HPS.out))
     clear HL
     go_wp2
     go_ret
     exact ⟨_, rfl, HL9.out.more HPS.out, HB9.out⟩
end Go.Proofs.YthidbmeaccpjdaaGreatDoor
end
