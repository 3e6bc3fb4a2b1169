/- Layer 12: rows read, lengths, the state of list's first loop. -/
import Derived.Test.YthidbmeaccpjdaaGreatDoorM21
import Derived.Test.YthidbmeaccpjdaaGreatDoorM15
import Derived.Test.YthidbmeaccpjdaaGreatDoorM02
import Derived.Test.YthidbmeaccpjdaaGreatDoorM05
section
namespace Go.Proofs.YthidbmeaccpjdaaGreatDoor
open Go.RowKit
set_option linter.unusedVariables false
theorem unescP_len : ∀ (n : Nat) (l : List UInt8), l.length ≤ n → (unescP l).length ≤ l.length
 | 0, l, h => by
  have : l = [] := List.eq_nil_of_length_eq_zero (by omega)
  subst this
  exact Nat.le_refl _
 | n + 1, [], _ => Nat.le_refl _
 | n + 1, [c], _ => by
  show (if c = 92 then ([] : List UInt8) else if c = 10 ∨ c = 13 then [] else [c]).length ≤ 1
  split
  ·simp
  ·split <;> simp
 | n + 1, c :: x :: r, h => by
  have h0 : r.length + 2 ≤ n + 1 := by simpa using h
  have h1 := unescP_len n r (by omega)
  have h2 := unescP_len n (x :: r) (by simp only [List.length_cons]; omega)
  show (if c = 92 then x :: unescP r else if c = 10 ∨ c = 13 then unescP (x :: r) else c :: unescP (x :: r)).length ≤ (c :: x :: r).length
  simp only [List.length_cons] at h2 ⊢
  split
  ·simp only [List.length_cons]; omega
  ·split
   ·omega
   ·simp only [List.length_cons]; omega
theorem meanP_len (t : Tok) : (meanP t).length ≤ t.text.length := by
 unfold meanP
 split
 ·exact Nat.le_refl _
 ·refine Nat.le_trans (unescP_len _ _ (Nat.le_refl _)) ?_
  rw [List.length_take, List.length_drop]
  omega
theorem restV_len (b : List UInt8) (r : List Tok) : (restV b r).length ≤ b.length + (joinP r).length := by
 have key : (b ++ joinP r).length ≤ b.length + (joinP r).length := by rw [List.length_append]; exact Nat.le_refl _
 cases b with
 | cons x y => exact key
 | nil =>
  cases r with
  | nil => exact key
  | cons u r' =>
   show (if u.kind = 2 then meanP u else joinP (u :: r')).length ≤ _
   split
   ·have h1 := meanP_len u
    have h2 : (joinP (u :: r')).length = u.text.length + (joinP r').length := by unfold joinP; rw [List.flatMap_cons, List.length_append]
    rw [h2]
    simp only [List.length_nil]
    omega
   ·simp
theorem pairG_len : ∀ (r : List Tok) (a : List UInt8), ((pairG a r).getD ([], [])).1.length ≤ a.length + (joinP r).length ∧ ((pairG a r).getD ([], [])).2.length ≤ a.length + (joinP r).length
 | [], a => by
  show (([] : List UInt8)).length ≤ _ ∧ (([] : List UInt8)).length ≤ _
  simp
 | t :: r, a => by
  have hj : (joinP (t :: r)).length = t.text.length + (joinP r).length := by unfold joinP; rw [List.flatMap_cons, List.length_append]
  by_cases h : t.kind = 1 ∧ (cutV 61 t.text).2.2 = true
  ·obtain ⟨⟨x, y, z⟩, hc⟩ : ∃ q, cutV 61 t.text = q := ⟨_, rfl⟩
   have hl := cutV_len 61 t.text
   rw [hc] at hl h
   have hz : z = true := h.2
   subst hz
   rw [pairG_hit h.1 hc]
   have h2 := restV_len y r
   have h3 : (smallP (a ++ x)).length = a.length + x.length := by rw [smallP_len, List.length_append]
   show (smallP (a ++ x)).length ≤ _ ∧ (restV y r).length ≤ _
   have h4 : x.length ≤ t.text.length := hl.1
   have h5 : y.length ≤ t.text.length := hl.2
   omega
  ·have h2 : t.kind ≠ 1 ∨ (cutV 61 t.text).2.2 = false := by
    by_cases hk : t.kind = 1
    ·refine .inr ?_
     cases hz : (cutV 61 t.text).2.2 with
     | false => rfl
     | true => exact absurd ⟨hk, hz⟩ h
    ·exact .inl hk
   rw [pairG_skip h2]
   have h3 := pairG_len r (a ++ t.text)
   rw [List.length_append] at h3
   rw [hj]
   omega
theorem pairP_len (l : List Tok) : (pairP l).1.length ≤ (joinP l).length ∧ (pairP l).2.length ≤ (joinP l).length := by
 have := pairG_len l []
 simp only [List.length_nil, Nat.zero_add] at this
 exact this
theorem whereP_len (n : List UInt8) : (whereP n).name.length ≤ n.length := by
 obtain ⟨m, hm⟩ : ∃ m, (if (decide (1 < n.length) && decide (n.getLast? = some 42)) = true then n.dropLast else n) = m := ⟨_, rfl⟩
 have hl : m.length ≤ n.length := by
  subst hm
  split
  ·rw [List.length_dropLast]; omega
  ·exact Nat.le_refl _
 cases h : lastP 42 m with
 | none =>
  rw [whereP_none n _ m rfl hm h]
  exact hl
 | some q =>
  obtain ⟨a, b⟩ := q
  have h1 := (lastP_some h).1
  have h2 : a.length ≤ m.length := by rw [h1, List.length_append]; omega
  cases h4 : decP b 0 63 with
  | none => rw [whereP_bad n _ m rfl hm a b h h4]; exact hl
  | some v => rw [whereP_num n _ m rfl hm a b h v h4]; exact Nat.le_trans h2 hl
theorem decP_range {l : List UInt8} {lo hi v : Int} (h : decP l lo hi = some v) : lo ≤ v ∧ v ≤ hi := by
 rw [decP_eq] at h
 split at h
 ·rename_i h2
  injection h with h
  rw [← h]
  exact h2.2
 ·cases h
theorem whereP_sec (n : List UInt8) : -1 ≤ (whereP n).section_ ∧ (whereP n).section_ ≤ 63 := by
 obtain ⟨m, hm⟩ : ∃ m, (if (decide (1 < n.length) && decide (n.getLast? = some 42)) = true then n.dropLast else n) = m := ⟨_, rfl⟩
 cases h : lastP 42 m with
 | none => rw [whereP_none n _ m rfl hm h]; exact ⟨by show (-1 : Int) ≤ -1; omega, by show (-1 : Int) ≤ 63; omega⟩
 | some q =>
  obtain ⟨a, b⟩ := q
  cases h4 : decP b 0 63 with
  | none => rw [whereP_bad n _ m rfl hm a b h h4]; exact ⟨by show (-1 : Int) ≤ -1; omega, by show (-1 : Int) ≤ 63; omega⟩
  | some v =>
   rw [whereP_num n _ m rfl hm a b h v h4]
   have := decP_range h4
   exact ⟨by show (-1 : Int) ≤ v; omega, this.2⟩
theorem namesP_mem : ∀ (ones : List One1) (a : List (List UInt8)) (x : List UInt8), x ∈ ones.foldl (fun a x => if x.at_.name ∈ a then a else a ++ [x.at_.name]) a → x ∈ a ∨ ∃ o ∈ ones, o.at_.name = x
 | [], a, x, h => .inl h
 | o :: r, a, x, h => by
  rw [List.foldl_cons] at h
  rcases namesP_mem r _ x h with h | ⟨p, hp, e⟩
  ·split at h
   ·exact .inl h
   ·rcases List.mem_append.1 h with h | h
    ·exact .inl h
    ·rw [List.mem_singleton] at h
     exact .inr ⟨o, List.mem_cons_self .., h.symm⟩
  ·exact .inr ⟨p, List.mem_cons_of_mem _ hp, e⟩
theorem namesP_len : ∀ (ones : List One1) (a : List (List UInt8)), (ones.foldl (fun a x => if x.at_.name ∈ a then a else a ++ [x.at_.name]) a).length ≤ a.length + ones.length
 | [], a => Nat.le_refl _
 | o :: r, a => by
  rw [List.foldl_cons]
  have := namesP_len r (if o.at_.name ∈ a then a else a ++ [o.at_.name])
  have h2 : (if o.at_.name ∈ a then a else a ++ [o.at_.name]).length ≤ a.length + 1 := by
   split
   ·omega
   ·rw [List.length_append]; simp
  simp only [List.length_cons]
  omega
theorem onesP_len (rs : List (List Tok)) : (onesP rs).length ≤ rs.length := by
 unfold onesP
 refine Nat.le_trans (List.length_filterMap_le _ _) ?_
 rw [List.length_map]
 exact Nat.le_refl _
theorem onesP_ok {rs : List (List Tok)} (h : ∀ r ∈ rs, (joinP r).length ≤ 10000000) : onesOk (onesP rs) := by
 intro o ho
 unfold onesP at ho
 obtain ⟨q, hq, he⟩ := List.mem_filterMap.1 ho
 obtain ⟨r, hr, rfl⟩ := List.mem_map.1 hq
 split at he
 ·cases he
 ·injection he with he
  subst he
  have h1 := pairP_len r
  have h2 := h r hr
  have h3 := whereP_len (pairP r).1
  exact ⟨by show (pairP r).2.length ≤ _; omega, by show (whereP (pairP r).1).name.length ≤ _; omega⟩
structure RowsIn (w : World) (B : Nat) (A : Option Addr) (n : Nat) (rs : List (List Tok)) : Prop where
 len : rs.length = n
 ex : ∃ xs, xs.length = n ∧ Run w B A xs ∧ ∀ i (hi : i < rs.length), ∃ A' c', xs[i]? = some (.slice A' rs[i].length c') ∧ rs[i].length ≤ c' ∧ c' ≤ maxLen ∧ Toks w B A' rs[i].length rs[i]
theorem RowsIn.below {w w' : World} {B n : Nat} {A : Option Addr} {rs : List (List Tok)} (h : RowsIn w B A n rs) (hb : Below B w w') : RowsIn w' B A n rs := by
 obtain ⟨h1, xs, h2, h3, h4⟩ := h
 refine ⟨h1, xs, h2, h3.below hb, fun i hi => ?_⟩
 obtain ⟨A', c', e1, e2, e3, e4⟩ := h4 i hi
 exact ⟨A', c', e1, e2, e3, e4.below hb⟩
theorem RowsIn.more {w : World} {B B' n : Nat} {A : Option Addr} {rs : List (List Tok)} (h : RowsIn w B A n rs) (hB : B ≤ B') : RowsIn w B' A n rs := by
 obtain ⟨h1, xs, h2, h3, h4⟩ := h
 refine ⟨h1, xs, h2, h3.more hB, fun i hi => ?_⟩
 obtain ⟨A', c', e1, e2, e3, e4⟩ := h4 i hi
 exact ⟨A', c', e1, e2, e3, e4.more hB⟩
theorem RowsIn.cut {w : World} {B n cap : Nat} {A : Option Addr} {rs : List (List Tok)} (h : RowsIn w B A n rs) {k : Nat} (hc : n ≤ cap) : RowsIn w B (if cap = k then A else A.map (·.add k)) (n - k) (rs.drop k) := by
 obtain ⟨h1, xs, h2, h3, h4⟩ := h
 refine ⟨by rw [List.length_drop, h1], xs.drop k, by rw [List.length_drop, h2], h3.cut (by omega), fun i hi => ?_⟩
 rw [List.length_drop] at hi
 obtain ⟨A', c', e1, e2, e3, e4⟩ := h4 (k + i) (by omega)
 refine ⟨A', c', ?_, ?_, e3, ?_⟩
 ·rw [List.getElem?_drop, e1, List.getElem_drop]
 ·rw [List.getElem_drop]; exact e2
 ·rw [List.getElem_drop]; exact e4
theorem RowsIn.at_ {w : World} {B n : Nat} {A : Option Addr} {rs : List (List Tok)} (h : RowsIn w B A n rs) {k : Nat} (hk : k < rs.length) : ∃ ad A' c', A = some ad ∧ ad.block < B ∧ w.cell? (ad.add k) = some (.slice A' rs[k].length c') ∧ rs[k].length ≤ c' ∧ c' ≤ maxLen ∧ Toks w B A' rs[k].length rs[k] := by
 obtain ⟨h1, xs, h2, h3, h4⟩ := h
 obtain ⟨A', c', e1, e2, e3, e4⟩ := h4 k hk
 obtain ⟨ad, u, a1, a2, a3, a4⟩ := h3.at_ (k := k) (by omega)
 rw [a3] at e1
 injection e1 with e1
 subst e1
 exact ⟨ad, A', c', a1, a2, a4, e2, e3, e4⟩
theorem RowsAt.rows {w : World} {B C : Nat} {v : Value} {rs : List (List Tok)} {xs : List Value} (h : RowsAt w B C v rs xs) : ∃ A c, v = .slice A rs.length c ∧ rs.length ≤ c ∧ c ≤ maxLen ∧ RowsIn w w.heap.size A rs.length rs := by
 have hown := h.own
 have key : ∀ A, Run w w.heap.size A xs → RowsIn w w.heap.size A rs.length rs := fun A hr => by
  refine ⟨rfl, xs, h.len, hr, fun i hi => ?_⟩
  obtain ⟨A', c', e1, e2, e3, e4⟩ := (h.each i hi).reads
  refine ⟨A', c', ?_, e2, e3, e4⟩
  rw [← e1, List.getD_eq_getElem?_getD, List.getElem?_eq_getElem (by rw [h.len]; exact hi)]
  rfl
 rcases hown.2 with ⟨rfl, hn⟩ | ⟨g, cap, cur, rfl, hb, hg, h1, h2, h3, h4⟩
 ·have : rs = [] := List.eq_nil_of_length_eq_zero hn
  have hx : xs = [] := List.eq_nil_of_length_eq_zero (by rw [h.len, this]; rfl)
  rw [this]
  rw [this, hx] at key
  exact ⟨none, 0, rfl, Nat.le_refl _, by simp, key none (.inl rfl)⟩
 ·exact ⟨_, cap, rfl, h1, h2, key _ (Run.of_own hown)⟩
structure LSt (w : World) (oa ob oc : List One1) (c : Nat) (v : Value) (ns : List (List UInt8)) (W : World) : Prop where
 par : MapL spotK W w.heap.size (parF oa) c
 fir : MapL spotK W (w.heap.size + 1) (firF ob) c
 seen : MapL strK W (w.heap.size + 2) (seenF oc) c
 own : OwnStrs W (w.heap.size + 3) v ns
 bel : Below w.heap.size w W
 size : w.heap.size + 3 ≤ W.heap.size
section
variable {w W W' : World} {oa ob oc : List One1} {c : Nat} {v : Value} {ns : List (List UInt8)} {o : One1}
theorem LSt.below (h : LSt w oa ob oc c v ns W) (hb : Below W.heap.size W W') : LSt w oa ob oc c v ns W' :=
 ⟨h.par.below hb, h.fir.below hb, h.seen.below hb, h.own.below hb, h.bel.trans (hb.mono h.bel.size), Nat.le_trans h.size hb.size⟩
theorem LSt.grown (h : LSt w oa ob oc c v ns W) {b : Nat} (hg : W.grownBy W' (some b)) (h0 : w.heap.size ≤ b) (h3 : b < w.heap.size + 3) :
  OwnStrs W' (w.heap.size + 3) v ns ∧ Below w.heap.size w W' ∧ w.heap.size + 3 ≤ W'.heap.size := by
 refine ⟨h.own.block fun q e => hg.block q (h.own.lt q e).2 fun e2 => ?_, h.bel.grown hg h.bel.size fun q e => ?_, Nat.le_trans h.size hg.size⟩
 ·have h1 := (h.own.lt q e).1
  have h2 : q = b := by simpa using e2
  omega
 ·have : b = q := Option.some.inj e
  omega
theorem LSt.parKeep (h : LSt w oa ob oc c v ns W) {u : Value} (hv : parF oa o.at_ = some u) : LSt w (oa ++ [o]) ob oc c v ns W :=
 ⟨par_keep h.par hv, h.fir, h.seen, h.own, h.bel, h.size⟩
theorem LSt.parPut (h : LSt w oa ob oc c v ns W) (hv : parF oa o.at_ = none) (hc : c < maxLen) (hf : spotK.fits o.at_) :
  ∃ W', (Instr.mapUpdate 193 (.map (some w.heap.size)) (spotV o.at_) (.string (ba o.value))).run Tryz.prog W = .ok () W' ∧ LSt w (oa ++ [o]) ob oc (c + 1) v ns W' ∧ W.grownBy W' (some w.heap.size) := by
 obtain ⟨W', h1, h2, h3⟩ := h.par.put Tryz.underlying193 hc hf (.string (ba o.value))
 obtain ⟨k1, k2, k3⟩ := h.grown h3 (Nat.le_refl _) (by omega)
 refine ⟨W', h1, ⟨par_put h2 hv, (h.fir.keep (h3.block _ h.fir.lt (by simp))).mono (Nat.le_succ _), (h.seen.keep (h3.block _ h.seen.lt (by simp))).mono (Nat.le_succ _), k1, k2, k3⟩, h3⟩
theorem LSt.firSkip (h : LSt w oa ob oc c v ns W) (hs : ¬ 0 ≤ o.at_.section_) : LSt w oa (ob ++ [o]) oc c v ns W :=
 ⟨h.par, fir_skip h.fir hs, h.seen, h.own, h.bel, h.size⟩
theorem LSt.firKeep (h : LSt w oa ob oc c v ns W) {u : Value} (hv : firF ob ⟨o.at_.name, o.at_.section_, false⟩ = some u) : LSt w oa (ob ++ [o]) oc c v ns W :=
 ⟨h.par, fir_keep h.fir hv, h.seen, h.own, h.bel, h.size⟩
theorem LSt.firPut (h : LSt w oa ob oc c v ns W) (hv : firF ob ⟨o.at_.name, o.at_.section_, false⟩ = none) (hs : 0 ≤ o.at_.section_) (hc : c < maxLen) (hf : spotK.fits ⟨o.at_.name, o.at_.section_, false⟩) :
  ∃ W', (Instr.mapUpdate 194 (.map (some (w.heap.size + 1))) (spotV ⟨o.at_.name, o.at_.section_, false⟩) (.bool o.at_.wide)).run Tryz.prog W = .ok () W' ∧ LSt w oa (ob ++ [o]) oc (c + 1) v ns W' ∧ W.grownBy W' (some (w.heap.size + 1)) := by
 obtain ⟨W', h1, h2, h3⟩ := h.fir.put Tryz.underlying194 hc hf (.bool o.at_.wide)
 obtain ⟨k1, k2, k3⟩ := h.grown h3 (by omega) (by omega)
 refine ⟨W', h1, ⟨(h.par.keep (h3.block _ h.par.lt (by simp))).mono (Nat.le_succ _), fir_put h2 hv hs, (h.seen.keep (h3.block _ h.seen.lt (by simp))).mono (Nat.le_succ _), k1, k2, k3⟩, h3⟩
theorem LSt.seenKeep (h : LSt w oa ob oc c v ns W) (hv : o.at_.name ∈ namesP oc) : LSt w oa ob (oc ++ [o]) c v ns W :=
 ⟨h.par, h.fir, seen_keep h.seen hv, h.own, h.bel, h.size⟩
theorem LSt.seenPut (h : LSt w oa ob oc c v ns W) (hv : ¬ o.at_.name ∈ namesP oc) (hc : c < maxLen) (hf : strK.fits o.at_.name) :
  ∃ W', (Instr.mapUpdate 195 (.map (some (w.heap.size + 2))) (.string (ba o.at_.name)) (.bool true)).run Tryz.prog W = .ok () W' ∧ LSt w oa ob (oc ++ [o]) (c + 1) v ns W' ∧ W.grownBy W' (some (w.heap.size + 2)) := by
 obtain ⟨W', h1, h2, h3⟩ := h.seen.put Tryz.underlying195 hc hf (.bool true)
 obtain ⟨k1, k2, k3⟩ := h.grown h3 (by omega) (by omega)
 refine ⟨W', h1, ⟨(h.par.keep (h3.block _ h.par.lt (by simp))).mono (Nat.le_succ _), (h.fir.keep (h3.block _ h.fir.lt (by simp))).mono (Nat.le_succ _), seen_put h2 hv, k1, k2, k3⟩, h3⟩
theorem LSt.push (h : LSt w oa ob oc c v ns W) {v' : Value} {s : List UInt8} (h1 : OwnStrs W' (w.heap.size + 3) v' (ns ++ [s])) (hg : W.grownBy W' v.ownBlock) : LSt w oa ob oc c v' (ns ++ [s]) W' := by
 have hk : ∀ b, b < w.heap.size + 3 → W'.heap[b]? = W.heap[b]? := fun b hb => hg.block b (by have := h.size; omega) fun e => by
  have := (h.own.lt b e.symm).1
  omega
 exact ⟨h.par.keep (hk _ (by omega)), h.fir.keep (hk _ (by omega)), h.seen.keep (hk _ (by omega)), h1, h.bel.grown hg h.bel.size fun q e => by have := (h.own.lt q e).1; omega, Nat.le_trans h.size hg.size⟩
end
def ListPost (w : World) (ps : List (List UInt8 × List UInt8)) (e : Ending) (w' : World) : Prop := ∃ v, e = .returned v ∧ OwnPars w' w.heap.size v ps ∧ Below w.heap.size w w'
theorem paramsP_take {f : List UInt8 → Option (List UInt8 × List UInt8)} {ns : List (List UInt8)} {k : Nat} (hk : k < ns.length) : (ns.take (k + 1)).filterMap f = (ns.take k).filterMap f ++ (f ns[k]).toList := by
 rw [List.take_succ_eq_append_getElem hk, List.filterMap_append]
 congr 1
end Go.Proofs.YthidbmeaccpjdaaGreatDoor
end
