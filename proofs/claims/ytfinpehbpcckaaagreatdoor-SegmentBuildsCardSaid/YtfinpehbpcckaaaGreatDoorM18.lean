/- Layer 34: the documents of a map, ascending: slices.Sorted(maps.Keys(..)) at both maps of Build. Layer 34: slices.SortFunc at a row of terms. Layer 34: words and plain steps for the second half of Build. Layer 34, plain: what Bytes writes is what Read reads. Layer 34, plain: a built segment is small; what is found in it. Layer 34, plain: the laws' example. -/
import Derived.Shelf.SlSortCmp.NoneTotal
import Derived.Test.YtfinpehbpcckaaaGreatDoorM17
import Derived.Test.YtfinpehbpcckaaaGreatDoorM02
import Derived.Test.YtfinpehbpcckaaaGreatDoorM01
import Derived.Test.YtfinpehbpcckaaaGreatDoorM15
import Derived.Test.YtfinpehbpcckaaaGreatDoorM16
section
namespace Go.Proofs.YtfinpehbpcckaaaGreatDoor
open Go.RowKit Go.Maps Go.Sort Go.Shelf
set_option linter.unusedVariables false

theorem keys_has {H : Type} {R : Value → Option (DataW H × List MemPlace)} {w : World} {b n : Nat} {D : DataW H} (hown : w.ownsMap Tryz.prog 3 R b n D) : (intKeys D).Nodup ∧ ∀ x, x ∈ intKeys D ↔ has D (.int .i64 x) = true := by
  obtain ⟨es, hD, hp, _⟩ := hown.entries intK.keyed
  obtain ⟨es', hD', hko⟩ := hown.keysOf
  obtain rfl : es = es' := by rw [hD] at hD'; simpa using hD'
  subst hD
  have hk : ∀ p, p ∈ es → ∃ x, p.1 = .int .i64 x := fun p hp => by obtain ⟨v, hv⟩ := hko p hp; obtain ⟨x, _, hx, _⟩ := Maps.keyOf_i64 Tryz.underlying3 hv; exact ⟨x, hx⟩
  refine ⟨?_, fun x => ?_⟩
  · show (es.map fun p => Go.intOf p.1).Nodup
    refine List.pairwise_map.2 (hp.imp_of_mem fun {p q} hp' hq' hne e => hne ?_)
    obtain ⟨a, ha⟩ := hk p hp'
    obtain ⟨b, hb⟩ := hk q hq'
    rw [ha, hb] at e ⊢
    exact congrArg _ e
  · rw [has_eq, List.any_eq_true]
    show x ∈ es.map (fun p => Go.intOf p.1) ↔ _
    rw [List.mem_map]
    constructor
    · rintro ⟨p, hp', rfl⟩
      obtain ⟨a, ha⟩ := hk p hp'
      exact ⟨p, hp', by rw [ha]; simp [Lit.sameKey, Go.intOf]⟩
    · rintro ⟨p, hp', hs⟩
      obtain ⟨a, ha⟩ := hk p hp'
      rw [ha] at hs
      exact ⟨p, hp', by rw [ha]; simpa [Lit.sameKey, Go.intOf] using hs⟩
theorem sortsA (m : Nat) : AnyZI.SortsIn Tryz.prog Tryz.sortedA_ren Fence.wide m :=
  ⟨fun blk off cap ss W hH hblk hsz => callsIn_wide.2 (Tryz.slices_Sort_int blk off cap ss W hH hblk hsz), fun p cap W => callsIn_wide.2 (Tryz.slices_Sort_int_none p cap W)⟩
theorem keysA_call (b : Option Nat) (W : World) : Calls Tryz.prog 34 #[.map b] W fun e w' => e = .returned (.func (.func 86) #[] #[.pointer (some ⟨W.heap.size, 0, none⟩)]) ∧ w' = W.alloc (.cells #[.map b] 61) :=
  (callsIn_wide (n := 6)).1 (AnyZI.keys_in Tryz.keysA Fence.wide 6 trivial rfl b W)
theorem keysB_call (b : Option Nat) (W : World) : Calls Tryz.prog 38 #[.map b] W fun e w' => e = .returned (.func (.func 94) #[] #[.pointer (some ⟨W.heap.size, 0, none⟩)]) ∧ w' = W.alloc (.cells #[.map b] 54) :=
  (callsIn_wide (n := 6)).1 (AnyZI.keys_in Tryz.keysB Fence.wide 6 trivial rfl b W)
/-- The keys that f tells, ascending, in a row of the call's own. -/
def SortedPost (W : World) (f : Int → Option Value) (e : Ending) (w' : World) : Prop :=
  ∃ v ks, e = .returned v ∧ OwnInts w' W.heap.size v ks ∧ ks.Pairwise (· < ·) ∧ (∀ d, d ∈ ks ↔ intK.fits d ∧ f d ≠ none) ∧ Below W.heap.size W w'
theorem asc_of_sorted {l : List Int} (h : l.Nodup) : (l.mergeSort fun x y => decide (x ≤ y)).Pairwise (· < ·) := by
  have h1 : (l.mergeSort fun x y => decide (x ≤ y)).Pairwise fun a b => decide (a ≤ b) = true := List.pairwise_mergeSort (fun a b c h1 h2 => by simp only [decide_eq_true_eq] at *; omega) (fun a b => by simp only [Bool.or_eq_true, decide_eq_true_eq]; omega) l
  have h2 : (l.mergeSort fun x y => decide (x ≤ y)).Nodup := (List.mergeSort_perm l _).nodup_iff.2 h
  refine (h1.and h2).imp fun {a b} hab => ?_
  have := of_decide_eq_true hab.1
  have := hab.2
  omega
theorem sorted_of {W : World} {b c : Nat} {f : Int → Option Value} (h : MapAt intK W b f c) {e : Ending} {w' : World} {D : DataW Value} (hD : W.ownsMap Tryz.prog 3 asIs b c D) (hDf : ∀ x, intK.fits x → ∀ z, D.atKey (intK.kk x) z = match f x with | some v => .held v | none => z)
    {v : Value} {ss : List Int} (he : e = .returned v) (hp : ss.Perm (intKeys D)) (hr : w'.ownsRow W.heap.size 3 1 v ss.length ((ss.mergeSort (fun x y => decide (x ≤ y))).map encZ)) (hb : Below W.heap.size W w') : SortedPost W f e w' := by
  obtain ⟨hnd, hmem⟩ := keys_has hD
  have hwf := intKeys_wf hD Tryz.underlying3
  have hlen : (ss.mergeSort fun x y => decide (x ≤ y)).length = ss.length := List.length_mergeSort _
  have hm : ∀ d, d ∈ (ss.mergeSort fun x y => decide (x ≤ y)) ↔ d ∈ intKeys D := fun d => (List.mergeSort_perm ss _).mem_iff.trans hp.mem_iff
  refine ⟨v, _, he, ⟨by rw [hlen]; exact hr, fun x hx => ?_⟩, asc_of_sorted ((hp.nodup_iff).2 hnd), fun d => ?_, hb⟩
  · exact wf64_bounds (hwf x ((hm x).1 hx))
  · rw [hm]
    constructor
    · intro hd
      have hf := hwf d hd
      refine ⟨hf, fun hn => ?_⟩
      have h1 := (hmem d).1 hd
      have h2 : has D (.int .i64 d) = false := has_false_of_atKey fun z => by
        have := hDf d hf z
        rw [hn] at this
        exact this
      rw [h1] at h2; cases h2
    · rintro ⟨hf, hn⟩
      rw [hmem]
      cases hv : f d with
      | none => exact absurd hv hn
      | some u =>
        refine has_true_of_atKey (y := .held u) fun z => ?_
        have := hDf d hf z
        rw [hv] at this
        exact this
theorem sortedA_call {f : Int → Option Value} {c : Nat} (b : Nat) (w W : World) (hW : W = w.alloc (.cells #[.map (some b)] 61)) (h : MapAt intK w b f c) (hc : c ≤ 1099511627776) :
    Calls Tryz.prog 33 #[.func (.func 86) #[] #[.pointer (some ⟨w.heap.size, 0, none⟩)]] W (SortedPost W f) := by
  have hcell : W.cell? ⟨w.heap.size, 0, none⟩ = some (.map (some b)) := by subst hW; simp
  have hsz : w.heap.size < W.heap.size := by subst hW; simp
  have hm : MapAt intK W b f c := h.keep (by subst hW; exact ((Below.refl w.heap.size w).alloc (Nat.le_refl _) _).block b h.lt)
  clear hW
  obtain ⟨D, hD, hDf⟩ := hm
  have hs := hD.size_le
  have hseq : SeqGives Fence.wide 3 Tryz.prog 86 #[.pointer (some ⟨w.heap.size, 0, none⟩)] encZ (fun ss => ss.Perm (intKeys D)) (Maps.size D) W :=
    AnyZI.keys_gives (ρ := Tryz.keysA_ren) { Tryz.keysA with } Fence.wide _ trivial rfl (by omega) w.heap.size b c D _ hsz hcell hD
  refine ((callsIn_wide (n := 6)).1 (AnyZI.sorted_in Tryz.sortedA Fence.wide 6 trivial trivial trivial trivial rfl (by omega) (sortsA _) (enters_of Tryz.func85 (by kernel_rfl) rfl) 86 #[.pointer (some ⟨w.heap.size, 0, none⟩)] trivial (enters_of Tryz.func86 (by kernel_rfl) rfl) _ _ (by simp only [maxLen]; omega) (by omega) _ hseq)).mono ?_
  rintro e w' ⟨v, ss, he, hp, hr, _, hb⟩
  exact sorted_of ⟨D, hD, hDf⟩ hD hDf he hp hr hb
theorem sortedB_call {f : Int → Option Value} {c : Nat} (b : Nat) (w W : World) (hW : W = w.alloc (.cells #[.map (some b)] 54)) (h : MapAt intK w b f c) (hc : c ≤ 1099511627776) :
    Calls Tryz.prog 33 #[.func (.func 94) #[] #[.pointer (some ⟨w.heap.size, 0, none⟩)]] W (SortedPost W f) := by
  have hcell : W.cell? ⟨w.heap.size, 0, none⟩ = some (.map (some b)) := by subst hW; simp
  have hsz : w.heap.size < W.heap.size := by subst hW; simp
  have hm : MapAt intK W b f c := h.keep (by subst hW; exact ((Below.refl w.heap.size w).alloc (Nat.le_refl _) _).block b h.lt)
  clear hW
  obtain ⟨D, hD, hDf⟩ := hm
  have hs := hD.size_le
  have hseq : SeqGives Fence.wide 3 Tryz.prog 94 #[.pointer (some ⟨w.heap.size, 0, none⟩)] encZ (fun ss => ss.Perm (intKeys D)) (Maps.size D) W :=
    AnyZI.keys_gives (ρ := Tryz.keysB_ren) { Tryz.keysB with } Fence.wide _ trivial rfl (by omega) w.heap.size b c D _ hsz hcell hD
  refine ((callsIn_wide (n := 6)).1 (AnyZI.sorted_in Tryz.sortedA Fence.wide 6 trivial trivial trivial trivial rfl (by omega) (sortsA _) (enters_of Tryz.func85 (by kernel_rfl) rfl) 94 #[.pointer (some ⟨w.heap.size, 0, none⟩)] trivial (enters_of Tryz.func94 (by kernel_rfl) rfl) _ _ (by simp only [maxLen]; omega) (by omega) _ hseq)).mono ?_
  rintro e w' ⟨v, ss, he, hp, hr, _, hb⟩
  exact sorted_of ⟨D, hD, hDf⟩ hD hDf he hp hr hb
end Go.Proofs.YtfinpehbpcckaaaGreatDoor
end
section
namespace Go.Proofs.YtfinpehbpcckaaaGreatDoor
open Go.RowKit Go.Sort Go.Shelf
set_option linter.unusedVariables false

instance : Inhabited Trm := ⟨⟨0, [], []⟩⟩
theorem putRow_row {α : Type} [Inhabited α] (enc : α → Value) (w : World) (g : Nat) (d : Array α) {cur : Array Value} {e : TypeId} (hg : w.heap[g]? = some (.cells cur e (0, 0))) (hd : d.size ≤ cur.size) :
    ∃ cur', (Sort.putRow enc w g 0 d).heap[g]? = some (.cells cur' e (0, 0)) ∧ cur'.size = cur.size ∧ cur'.toList.take d.size = d.toList.map enc := by
  refine ⟨Sort.putCells enc 0 d cur, ?_, by simp [Sort.putCells], ?_⟩
  · show (w.heap.modify g _)[g]? = _
    rw [Array.getElem?_modify, if_pos rfl, hg]; rfl
  · apply List.ext_getElem
    · simp [Sort.putCells]; omega
    · intro i h1 h2
      have hi : i < d.size := by simpa using h2
      simp only [List.getElem_take, Array.getElem_toList, List.getElem_map]
      simp [Sort.putCells, hi]
theorem putRow_far {α : Type} [Inhabited α] (enc : α → Value) (w : World) (g off : Nat) (d : Array α) {k : Nat} (hk : k ≠ g) : (Sort.putRow enc w g off d).heap[k]? = w.heap[k]? := by
  show (w.heap.modify g _)[k]? = _
  rw [Array.getElem?_modify, if_neg (fun e => hk e.symm)]
def Grown (w w' : World) : Prop := ∃ q os, w' = grow (w.drewN q) os
theorem Grown.refl (w : World) : Grown w w := ⟨0, #[], by rw [grow_empty]; rfl⟩
theorem Grown.alloc {w w' : World} (h : Grown w w') (o : Obj) : Grown w (w'.alloc o) := by
  obtain ⟨q, os, rfl⟩ := h
  exact ⟨q, os ++ #[o], by rw [alloc_eq_grow, grow_grow]⟩
theorem Grown.drew {w w' : World} (h : Grown w w') : Grown w w'.drew := by
  obtain ⟨q, os, rfl⟩ := h
  exact ⟨q + 1, os, rfl⟩
set_option maxRecDepth 100000 in
set_option maxHeartbeats 4000000 in
theorem compare_grown (f g : Int) (x y l k : List UInt8) (w : World) : Calls Tryz.prog 37 #[.agg #[.int .i64 f, .string (ba x), .string (ba l)], .agg #[.int .i64 g, .string (ba y), .string (ba k)]] w fun e w' => e = .returned (.int .i64 (cmpT ⟨f, x, l⟩ ⟨g, y, k⟩)) ∧ Grown w w' := by
  have HT := Lib.hid (cmpT_or ⟨f, x, l⟩ ⟨g, y, k⟩)
  go_enter Tryz.func37, Tryz.ntmps37
  go_wp2
  go_region_law
    (first
      | (go_simp; go_at_call 92; refine (compare_int _ _ _).mono ?_; rintro e w' ⟨rfl, rfl⟩)
      | (go_simp; go_at_call 93; refine (strcmp_any _ _ _).mono ?_; rintro e w' ⟨rfl, rfl⟩)
      | (go_simp; go_at_call 91; refine (cor_or (cmpI f g) (Lib.compareBytes x y) _ _ _ (by go_simp) (by go_simp)).mono ?_; rintro e w' ⟨rfl, rfl⟩)
      | fail)
  all_goals
    go_wp2
    go_ret
    refine ⟨by rw [← HT.out]; rfl, ?_⟩
    repeat (first | exact Grown.refl _ | refine Grown.alloc ?_ _ | refine Grown.drew ?_)
theorem ltT (x y : Trm) : ltOf cmpT x y = decide (cmpT x y < 0) := rfl
theorem swoT : SWO (ltOf cmpT) where
  irrefl x := by rw [ltT, cmpT_self]; decide
  trans x y z h1 h2 := by
    rw [ltT, decide_eq_true_eq] at *
    exact cmpT_trans h1 h2
  ntrans x y z h1 h2 := by
    rw [ltT, decide_eq_false_iff_not] at *
    intro h3
    have h4 := cmpT_swap x y
    rcases cmpT_cases x y with h | h | h
    · exact h1 (by omega)
    · have := cmpT_zero h
      rw [cmpT_congr this (rfl : keyT z = keyT z)] at h3
      exact h2 h3
    · exact h2 (cmpT_trans (by omega) h3)
theorem cmpLaysT (blk off size : Nat) (w : World) : CmpLays Tryz.prog 37 #[] trmCells 3 cmpT blk off size w :=
  fun _ _ _ _ x y => compare_grown x.field y.field x.word y.word x.list y.list _
theorem flatK_list (d : Array Trm) : (flatK trmCells 3 d).toList = d.toList.flatMap trmCells := by
  apply List.ext_getElem?
  intro t
  have hl := trm_len d.toList
  by_cases ht : t < d.size * 3
  · have hj : t / 3 < d.toList.length := by rw [Array.length_toList]; omega
    have hg := trm_get d.toList (t / 3) hj (t % 3) (Nat.mod_lt _ (by omega))
    have e : t / 3 * 3 + t % 3 = t := by omega
    rw [e] at hg
    rw [hg]
    have h1 := get_flatK trmCells 3 d t ht
    have hs : t < (flatK trmCells 3 d).size := by simpa using ht
    have hc : (trmCells d.toList[t / 3]).length = 3 := rfl
    have h2 : d[t / 3]! = d.toList[t / 3] := by
      have : t / 3 < d.size := by omega
      simp [this]
    rw [h2] at h1
    rw [List.getElem?_eq_getElem (by simpa using hs), List.getElem?_eq_getElem (by rw [hc]; omega)]
    congr 1
    rw [getElem!_pos (flatK trmCells 3 d) t hs, getElem!_pos (trmCells d.toList[t / 3]) (t % 3) (by rw [hc]; omega)] at h1
    simpa using h1
  · rw [List.getElem?_eq_none (by simp; omega), List.getElem?_eq_none (by rw [hl]; simp; omega)]
def SortTPost (w : World) (B : Nat) (o : Value) (ts : List Trm) (e : Ending) (w' : World) : Prop :=
  e = .returned (.tuple #[]) ∧ ∃ ts', ts'.Perm ts ∧ ts'.Pairwise (fun a b => ¬ cmpT b a < 0) ∧ OwnTrms w' B o ts' ∧ w.grownBy w' o.ownBlock
theorem sortT_none (p : Option Addr) (cap : Nat) (fv : Value) (w : World) : Calls Tryz.prog 36 #[.slice p 0 cap, fv] w fun e w' => e = .returned (.tuple #[]) ∧ w' = w :=
  AnyF.slices_SortFunc_none (P := Tryz.prog) (ρ := Tryz.sortTrm_ren) Tryz.sortTrm p cap fv w
theorem sortT_any (w : World) (B : Nat) (o : Value) (ts : List Trm) (h : OwnTrms w B o ts) (hlen : ts.length ≤ 1099511627776) :
    Calls Tryz.prog 36 #[o, .func (.func 37) #[] #[]] w (SortTPost w B o ts) := by
  have hrow := h.row
  rcases hrow.2 with ⟨rfl, h0⟩ | ⟨g, cap, cur, rfl, hB, hg, h1, h2, h3, h4⟩
  · have e1 : ts = [] := List.eq_nil_of_length_eq_zero h0
    subst e1
    refine (sortT_none _ _ _ _).mono ?_
    rintro e w' ⟨rfl, rfl⟩
    exact ⟨rfl, [], List.Perm.refl _, List.Pairwise.nil, OwnTrms.nil_ _ _, rfl, rfl, rfl, Nat.le_refl _, fun _ _ _ => rfl⟩
  · have hgl := heap_lt hg
    have hd0 : ts.toArray.size = ts.length := by simp
    have hH : HoldsK trmCells 3 w g 0 ts.toArray := fun j hj => by
      rw [size_flatK, hd0] at hj
      have hfl := flatK_list ts.toArray
      have hlen3 := trm_len ts
      have hj2 : j < cur.size := by rw [h3]; omega
      have e1 : (flatK trmCells 3 ts.toArray)[j]! = cur[j] := by
        have hs : j < (flatK trmCells 3 ts.toArray).size := by rw [size_flatK, hd0]; exact hj
        rw [getElem!_pos (flatK trmCells 3 ts.toArray) j hs]
        have e2 : (flatK trmCells 3 ts.toArray).toList[j]'(by simpa using hs) = (ts.flatMap trmCells)[j]'(by rw [hlen3]; exact hj) := by
          congr 1
        have e3 : (ts.flatMap trmCells)[j]'(by rw [hlen3]; exact hj) = (cur.toList.take (ts.length * 3))[j]'(by rw [List.length_take]; simp; omega) := by
          congr 1
          exact h4.symm
        rw [List.getElem_take] at e3
        simpa using e2.trans e3
      rw [e1]
      refine ⟨?_, ?_⟩
      · rw [Nat.zero_add]
        simp [World.cell?, hg, hj2]
      · simp [World.frozen?, hg]
    have hcall := AnyQ.slices_SortFunc Tryz.sortTrm 3 Tryz.isAgg47 Tryz.sizeOf47 trmCells (fun _ => rfl) (fun x v hv => by simp [trmCells] at hv; rcases hv with rfl | rfl | rfl <;> rfl) cmpT swoT 37 #[] g 0 cap ts.toArray w (enters_of Tryz.func37 (by kernel_rfl) rfl) (cmpLaysT g 0 ts.toArray.size w) hH hgl (by rw [hd0]; omega)
    rw [hd0] at hcall
    refine Calls.mono (show Calls Tryz.prog 36 _ _ _ from hcall) ?_
    rintro e w' ⟨rfl, d', q, os, ⟨hp1, -, hp3⟩, hsd, rfl⟩
    have hds : d'.size = ts.length := by rw [hp1, hd0]
    have hperm : d'.toList.Perm ts := by
      have ea : ∀ (a : Array Trm) (n : Nat), a.size = n → a.extract 0 n = a := fun a n hn => by subst hn; simp
      rw [ea d' _ hds, ea ts.toArray _ hd0] at hp3
      simpa using hp3
    have hs0 : (Sort.ahead w q).heap = w.heap := rfl
    obtain ⟨cur', c1, c2, c3⟩ := putRow_row id (Sort.ahead w q) g (flatK trmCells 3 d') (cur := cur) (e := 47) hg (by rw [size_flatK, hds, h3]; omega)
    have hps : (Sort.putRow id (Sort.ahead w q) g 0 (flatK trmCells 3 d')).heap.size = w.heap.size := by show (w.heap.modify g _).size = _; simp
    have hgr : w.grownBy (sortWorldK trmCells 3 w g 0 q d' os) (some g) := by
      refine ⟨rfl, rfl, rfl, ?_, fun k hk hne => ?_⟩
      · show _ ≤ (_ ++ os).size
        rw [Array.size_append]
        have : (putRowK trmCells 3 (Sort.ahead w q) g 0 d').heap.size = w.heap.size := hps
        omega
      · show (grow (Sort.putRow id (Sort.ahead w q) g 0 (flatK trmCells 3 d')) os).heap[k]? = _
        rw [Go.Sort.heap_grow_old _ _ (by rw [hps]; exact hk)]
        exact putRow_far _ _ _ _ _ (fun e => hne (by rw [e]))
    refine ⟨rfl, d'.toList, hperm, ?_, ⟨?_, fun t ht => h.each t (hperm.mem_iff.1 ht)⟩, hgr⟩
    · rw [List.pairwise_iff_getElem]
      intro i j hi hj hij
      have hi2 : i < ts.length := by simpa [hds] using hi
      have hj2 : j < ts.length := by simpa [hds] using hj
      have := hsd i j (Nat.zero_le _) hij (by omega)
      have ei : d'[i]! = d'.toList[i] := by simp [hds, hi2]
      have ej : d'[j]! = d'.toList[j] := by simp [hds, hj2]
      rw [ei, ej, ltT, decide_eq_false_iff_not] at this
      exact this
    · have hdl : d'.toList.length = ts.length := by simpa using hds
      rw [hdl]
      refine ⟨by rw [trm_len, hdl], .inr ⟨g, cap, cur', rfl, hB, ?_, h1, h2, by rw [c2]; exact h3, ?_⟩⟩
      · show (grow (Sort.putRow id (Sort.ahead w q) g 0 (flatK trmCells 3 d')) os).heap[g]? = _
        rw [Go.Sort.heap_grow_old _ _ (by rw [hps]; exact hgl)]
        exact c1
      · rw [size_flatK, hds] at c3
        rw [c3, List.map_id]
        exact flatK_list d'
end Go.Proofs.YtfinpehbpcckaaaGreatDoor
end
section
namespace Go.Proofs.YtfinpehbpcckaaaGreatDoor
open Go.RowKit
set_option linter.unusedVariables false

theorem TermsAt.mono {w : World} {B T c c' : Nat} {tag : Nat → Own} {evs : List Ev} {X : Key → Prop} {km : Key → Option Value} (h : TermsAt w B tag T evs X km c) (hc : c ≤ c') : TermsAt w B tag T evs X km c' :=
  ⟨h.top, h.fresh, h.base, h.map.mono hc, h.keys, fun t v ht hv => by
    obtain ⟨b, dm, e, h1, h2, h3⟩ := h.inn t v ht hv
    exact ⟨b, dm, e, h1, h2.mono hc, h3⟩⟩
/-- The documents of the entries, ascending. -/
def docsP (U : List Ent) : List Int := rUnion [] (U.map (·.doc))
theorem docsP_asc (U : List Ent) : (docsP U).Pairwise (· < ·) := (rUnion_spec _ [] List.Pairwise.nil).1
theorem docsP_mem (U : List Ent) (d : Int) : d ∈ docsP U ↔ ∃ e, e ∈ U ∧ e.doc = d := by
  unfold docsP
  rw [(rUnion_spec (U.map (·.doc)) [] List.Pairwise.nil).2 d, List.mem_map]
  constructor
  · rintro (h | h)
    · cases h
    · exact h
  · exact .inr
theorem ks_posts {U : List Ent} (g : Goods U) {ks : List Int} {dm : Int → Option Value} {t : Key} (ha : ks.Pairwise (· < ·)) (hm : ∀ d, d ∈ ks ↔ intK.fits d ∧ dm d ≠ none)
    (hd : ∀ d, intK.fits d → (dm d = none ↔ ∀ e, e ∈ evsOf U → ¬ (e.1 = t ∧ e.2.1 = d))) : ks.map (fun d => (⟨d, placesE (evsOf U) t d⟩ : Post)) = postsE (evsOf U) (docsP U) t := by
  unfold postsE
  congr 1
  refine asc_ext _ _ ha ((docsP_asc U).filter _) fun d => ?_
  rw [hm, List.mem_filter, docsP_mem]
  constructor
  · rintro ⟨hf, hn⟩
    have h1 : ¬ ∀ e, e ∈ evsOf U → ¬ (e.1 = t ∧ e.2.1 = d) := fun h => hn ((hd d hf).2 h)
    have h2 : ∃ e, e ∈ evsOf U ∧ e.1 = t ∧ e.2.1 = d := Classical.byContradiction fun h => h1 fun e he hh => h ⟨e, he, hh⟩
    obtain ⟨⟨a, b, c⟩, he, h3, h4⟩ := h2
    dsimp only at h3 h4
    subst h3; subst h4
    obtain ⟨y, hy, _, h5, _⟩ := ev_mem he
    refine ⟨⟨y, hy, h5.symm⟩, ?_⟩
    have := placesE_ev he
    simpa using this
  · rintro ⟨⟨e, he, rfl⟩, hp⟩
    have hf := (countsP_fits (g.counts e he)).2
    refine ⟨hf, fun hn => ?_⟩
    have hp2 : placesE (evsOf U) t e.doc ≠ [] := by simpa using hp
    exact hp2 (placesE_none ((hd _ hf).1 hn))
/-- The term of a key. -/
def mkT (U : List Ent) (x : Key) : Trm := ⟨x.1, x.2, postEnc (postsE (evsOf U) (docsP U) x)⟩
theorem keyT_mkT (U : List Ent) (x : Key) : keyT (mkT U x) = x := rfl
theorem ev_fits {U : List Ent} (g : Goods U) {e : Ev} (he : e ∈ evsOf U) : KeyFits e.1 := by
  obtain ⟨y, hy, h1, _, h2⟩ := ev_mem he
  have h3 := (countsP_fits (g.counts y hy)).1.2
  have h4 := listP_le y.text _ h2
  have h5 := g.short y hy
  refine ⟨by rw [h1]; exact h3, ?_⟩
  simp only [maxLen]; omega
theorem built_of {U : List Ent} (g : Goods U) {L : List Key} {km : Key → Option Value} {ts : List Trm} {ds : List Int} (hL : L.Nodup) (h1 : ∀ x, x ∈ L → KeyFits x ∧ km x ≠ none) (h2 : ∀ x, KeyFits x → km x ≠ none → x ∈ L)
    (hk : ∀ t, KeyFits t → (km t = none ↔ (∀ e, e ∈ evsOf U → e.1 ≠ t) ∧ ¬ False)) (hp : ts.Perm (L.map (mkT U))) (hs : ts.Pairwise fun a b => ¬ cmpT b a < 0) (hd : ds.Pairwise (· < ·)) (hdm : ∀ d, d ∈ ds ↔ ∃ e, e ∈ U ∧ e.doc = d) : Built U ⟨ts, ds⟩ := by
  have hds : ds = docsP U := asc_ext _ _ hd (docsP_asc U) fun d => by rw [hdm, docsP_mem]
  have hkeys : (ts.map keyT).Perm L := by
    have := hp.map keyT
    rw [List.map_map] at this
    have e : L.map (keyT ∘ mkT U) = L := by
      have : (keyT ∘ mkT U) = id := rfl
      rw [this, List.map_id]
    rwa [e] at this
  have hnd : (ts.map keyT).Nodup := hkeys.nodup_iff.2 hL
  refine ⟨hd, hdm, ?_, fun t => ?_, fun x hx => ?_⟩
  · have hne : ts.Pairwise fun a b => keyT a ≠ keyT b := by
      have := hnd
      unfold List.Nodup at this
      rwa [List.pairwise_map] at this
    refine (hs.and hne).imp fun {a b} hab => ?_
    have h3 := cmpT_swap a b
    rcases cmpT_cases a b with h | h | h
    · omega
    · exact absurd (cmpT_zero h) hab.2
    · exact absurd (by omega) hab.1
  · have e : (∃ x, x ∈ ts ∧ keyT x = t) ↔ t ∈ L := by
      rw [← hkeys.mem_iff, List.mem_map]
    show (∃ x, x ∈ ts ∧ keyT x = t) ↔ _
    rw [e]
    constructor
    · intro ht
      obtain ⟨hf, hn⟩ := h1 t ht
      refine Classical.byContradiction fun h => hn ((hk t hf).2 ⟨fun e he he1 => h ⟨e, he, he1⟩, fun h => h⟩)
    · rintro ⟨ev, he, rfl⟩
      have hf := ev_fits g he
      exact h2 _ hf fun hn => ((hk _ hf).1 hn).1 ev he rfl
  · obtain ⟨y, hy, rfl⟩ := List.mem_map.1 (hp.mem_iff.1 hx)
    show _ = postEnc (postsE (evsOf U) ds _)
    rw [hds]; rfl
/-- What Build hands back. -/
def BuildPost (w : World) (U : List Ent) (e : Ending) (w' : World) : Prop :=
  Below w.heap.size w w' ∧ ∃ A n c D m d s, e = .returned (.agg #[.slice A n c, .slice D m d]) ∧ SegIn w' w'.heap.size A n c D m d s ∧ Built U s
theorem eqG_some (b : Nat) (w : World) : (eqGuard BinOp.eql 61 (.tmp 59) (.const (.map none)) (.map (some b)) (.map none)).run Tryz.prog w = .ok () w := by kernel_rfl
theorem eqG_none (w : World) : (eqGuard BinOp.eql 61 (.tmp 59) (.const (.map none)) (.map none) (.map none)).run Tryz.prog w = .ok () w := by kernel_rfl
theorem TermsAt.addX {w : World} {B T c : Nat} {tag : Nat → Own} {evs : List Ev} {km : Key → Option Value} {t : Key} {v : Value} (h : TermsAt w B tag T evs (fun _ => False) km c) (hk : km t = some v) : TermsAt w B tag T evs (fun u => u = t) km c :=
  ⟨h.top, h.fresh, h.base, h.map, fun u hu => by
    rw [h.keys u hu]
    constructor
    · rintro ⟨h1, h2⟩
      refine ⟨h1, fun e => ?_⟩
      subst e
      have := (h.keys u hu).2 ⟨h1, h2⟩
      rw [hk] at this; cases this
    · rintro ⟨h1, _⟩
      exact ⟨h1, fun h => h⟩, h.inn⟩
/-- Where both ways of a word meet: the key has its inner map. -/
def JRel (w wr : World) (tagI : Nat → Own) (T : Nat) (evs : List Ev) (c : Nat) (f : Int) (x : List UInt8) (d : Int) (be kb : Nat) (wc : World) : Prop :=
  ∃ bJ tagJ kmJ, TermsAt wc w.heap.size tagJ T evs (fun u => u = (f, x)) kmJ (c + 1) ∧ kmJ (f, x) = some (.map (some bJ)) ∧ Kept wr tagI wc tagJ ∧ Below w.heap.size wr wc ∧
    wc.cell? ⟨kb, 0, none⟩ = some (.int .i64 f) ∧ wc.cell? ⟨kb, 1, none⟩ = some (.string (ba x)) ∧ wc.cell? ⟨be, 0, none⟩ = some (.int .i64 d) ∧ tagJ kb = .out ∧ tagJ be = .out ∧ wr.heap.size + 1 ≤ wc.heap.size
/-- The state at the head of the loop over the keys. -/
def LRel (w5 : World) (g r T : Nat) (U : List Ent) (km : Key → Option Value) (c : Nat) (wr : World) : Prop :=
  ∃ L v cnt, Ranging keyK wr T r km c L cnt ∧ wr.heap[g]? = some (.cells #[v, .slice none 0 0] 28 (0, 0)) ∧ OwnTrms wr w5.heap.size v (L.map (mkT U)) ∧ Off (fun b => b = g ∨ b = r) w5 wr
/-- The state at the head of the loop over a key's documents. -/
def KRel (w9 : World) (evs : List Ev) (t : Key) (ks : List Int) (k : Nat) (v : Value) (wr : World) : Prop :=
  ∃ ps, OwnPosts wr w9.heap.size v ps ∧ ps.map (·.1) = (ks.take k).map (fun d => (⟨d, placesE evs t d⟩ : Post)) ∧ Below w9.heap.size w9 wr
theorem grownBy_setCell (w : World) (p : Addr) (u : Value) : w.grownBy (w.setCell p u) (some p.block) :=
  ⟨rfl, rfl, rfl, by simp [World.setCell], fun k hk hne => heap_setCell_other w p k u fun e => hne (by rw [e])⟩
theorem grown_below {a b c : World} {row : Option Nat} (h : Below a.heap.size a b) (k : b.grownBy c row) : a.grownBy c row :=
  ⟨k.os.trans h.os, k.tape.trans h.tape, k.output.trans h.output, Nat.le_trans h.size k.size, fun i hi hne => (k.block i (Nat.lt_of_lt_of_le hi h.size) hne).trans (h.block i hi)⟩
theorem used_goods {es : List Ent} (h : EntsFew es) : Goods (usedE es) := ⟨usedE_apart es, usedE_counts es, fun e he => by
  rcases usedE_mem es [] e he with h1 | h1
  · cases h1
  · exact h.text e h1⟩
theorem nodup_len {α : Type} [DecidableEq α] : ∀ (L M : List α), L.Nodup → (∀ x, x ∈ L → x ∈ M) → L.length ≤ M.length
  | [], M, _, _ => Nat.zero_le _
  | x :: r, M, h, hm => by
    rw [List.nodup_cons] at h
    have h1 : x ∈ M := hm x (by simp)
    have h2 := nodup_len r (M.erase x) h.2 fun y hy => (List.mem_erase_of_ne (fun e => h.1 (by rw [← e]; exact hy))).2 (hm y (by simp [hy]))
    have h3 := List.length_erase_of_mem h1
    have h4 := List.length_pos_of_mem h1
    rw [List.length_cons]; omega
theorem Ranging.keys {k : TypeId} {κ : Type} {K : KeyKind k κ} {w : World} {b r c cnt : Nat} {f : κ → Option Value} {L : List κ} (h : Ranging K w b r f c L cnt) : L.Nodup ∧ ∀ x, x ∈ L → K.fits x ∧ f x ≠ none := by
  obtain ⟨D, left, h1, h2, h3, h4, h5⟩ := h
  exact ⟨h4, h5⟩
theorem keys_len {L : List Key} {evs : List Ev} {km : Key → Option Value} (hL : L.Nodup ∧ ∀ x, x ∈ L → KeyFits x ∧ km x ≠ none) (hk : ∀ t, KeyFits t → (km t = none ↔ (∀ e, e ∈ evs → e.1 ≠ t) ∧ ¬ False)) : L.length ≤ evs.length := by
  have h := nodup_len L (evs.map (·.1)) hL.1 fun x hx => by
    obtain ⟨hf, hn⟩ := hL.2 x hx
    refine Classical.byContradiction fun h => hn ((hk x hf).2 ⟨fun e he he1 => h (List.mem_map.2 ⟨e, he, he1⟩), fun h => h⟩)
  rwa [List.length_map] at h
theorem postsE_few (U : List Ent) (t : Key) : (postsE (evsOf U) (docsP U) t).length ≤ U.length := by
  unfold postsE
  rw [List.length_map]
  refine Nat.le_trans (List.length_filter_le _ _) ?_
  have := rUnion_len (U.map (·.doc)) []
  rw [List.length_map] at this
  unfold docsP
  simpa using this
theorem fewPosts_of {U : List Ent} (g : Goods U) (hU : U.length ≤ 1000) (t : Key) : FewPosts (postsE (evsOf U) (docsP U) t) := by
  refine ⟨Nat.le_trans (postsE_few U t) (by omega), fun p hp => ?_⟩
  obtain ⟨_, _, h3⟩ := postsE_mem.1 hp
  rw [h3]
  rcases placesE_cases g.apart t p.doc with h4 | ⟨e, he, _, _, h7⟩
  · rw [h4]; simp
  · rw [h7]
    have h8 := idxs_len t.2 (listP e.text)
    have h9 := list_few e.text
    have h10 := g.short e he
    omega
/-- A cell of a box written, then the whole. -/
theorem res_three {w : World} {g : Nat} {x y y0 : Value} (h : w.heap[g]? = some (.cells #[x, y0] 28 (0, 0))) :
    w.cell? ⟨g, 1, none⟩ = some y0 ∧ w.frozen? ⟨g, 1, none⟩ = false ∧
    (w.setCell ⟨g, 1, none⟩ y).cell? ⟨g, 0, none⟩ = some x ∧ (w.setCell ⟨g, 1, none⟩ y).cell? ⟨g, 1, none⟩ = some y ∧ (w.setCell ⟨g, 1, none⟩ y).frozen? ⟨g, 0, none⟩ = false ∧ (w.setCell ⟨g, 1, none⟩ y).frozen? ⟨g, 1, none⟩ = false ∧
    ((w.setCell ⟨g, 1, none⟩ y).setCell ⟨g, 0, none⟩ x).cell? ⟨g, 1, none⟩ = some y ∧ ((w.setCell ⟨g, 1, none⟩ y).setCell ⟨g, 0, none⟩ x).frozen? ⟨g, 1, none⟩ = false ∧
    (((w.setCell ⟨g, 1, none⟩ y).setCell ⟨g, 0, none⟩ x).setCell ⟨g, 1, none⟩ y).cell? ⟨g, 0, none⟩ = some x ∧ (((w.setCell ⟨g, 1, none⟩ y).setCell ⟨g, 0, none⟩ x).setCell ⟨g, 1, none⟩ y).cell? ⟨g, 1, none⟩ = some y := by
  have h1 := heap_setCell_same w g 1 _ 28 y h
  have h2 := heap_setCell_same (w.setCell ⟨g, 1, none⟩ y) g 0 _ 28 x h1
  have h3 := heap_setCell_same ((w.setCell ⟨g, 1, none⟩ y).setCell ⟨g, 0, none⟩ x) g 1 _ 28 y h2
  refine ⟨by simp [World.cell?, h], by simp [World.frozen?, h], by simp [World.cell?, h1], by simp [World.cell?, h1], by simp [World.frozen?, h1], by simp [World.frozen?, h1], by simp [World.cell?, h2], by simp [World.frozen?, h2], by simp [World.cell?, h3], by simp [World.cell?, h3]⟩
end Go.Proofs.YtfinpehbpcckaaaGreatDoor
end
section
namespace Go.Proofs.YtfinpehbpcckaaaGreatDoor
set_option linter.unusedVariables false

theorem vint_ne {n : Int} (h : 0 ≤ n) : vint n ≠ [] := by rw [vint_pos h]; exact vnum_ne _
theorem loop_vints : ∀ (l : List Int) (t : List UInt8) (out : List Int), (∀ x, x ∈ l → 0 ≤ x ∧ x < 9223372036854775808) → Rd.loop l.length ⟨l.flatMap vint ++ t, false⟩ out = (out ++ l, ⟨t, false⟩)
  | [], t, out, _ => by simp [Rd.loop]
  | x :: r, t, out, h => by
    have hx := h x (by simp)
    have hn := num_of (n := x.toNat) (t := r.flatMap vint ++ t) (b := false) (by omega)
    rw [List.flatMap_cons, List.append_assoc, vint_pos hx.1, List.length_cons]
    unfold Rd.loop
    rw [hn, if_neg (by simp), loop_vints r t _ (fun y hy => h y (by simp [hy])), List.append_assoc]
    congr 2
    show [((x.toNat : Nat) : Int)] ++ r = x :: r
    rw [Int.toNat_of_nonneg hx.1]; rfl
theorem vints_ge : ∀ l : List Int, (∀ x, x ∈ l → 0 ≤ x) → l.length ≤ (l.flatMap vint).length
  | [], _ => Nat.zero_le _
  | x :: r, h => by
    have h1 := vints_ge r fun y hy => h y (by simp [hy])
    have h2 : 0 < (vint x).length := List.length_pos_iff.2 (vint_ne (h x (by simp)))
    simp only [List.flatMap_cons, List.length_append, List.length_cons]; omega
theorem nums_vints (l : List Int) (t : List UInt8) (h : ∀ x, x ∈ l → 0 ≤ x ∧ x < 9223372036854775808) (hl : l.length < 9223372036854775808) : Rd.nums ⟨vints l ++ t, false⟩ = (l, ⟨t, false⟩) := by
  have hn := num_of (n := l.length) (t := l.flatMap vint ++ t) (b := false) hl
  have hg := vints_ge l fun x hx => (h x hx).1
  unfold Rd.nums vints
  rw [List.append_assoc, hn]
  dsimp only
  rw [if_neg (by rw [List.length_append]; omega), if_neg (by decide), loop_vints l t [] h, List.nil_append]
theorem text_vtext (x t : List UInt8) (hx : x.length < 9223372036854775808) : Rd.text ⟨vtext x ++ t, false⟩ = (x, ⟨t, false⟩) := by
  have hn := num_of (n := x.length) (t := x ++ t) (b := false) hx
  unfold Rd.text vtext
  rw [List.append_assoc, hn]
  dsimp only
  unfold Rd.take
  have h1 : ((x ++ t).take ((x.length : Nat) : Int).toNat, (⟨(x ++ t).drop ((x.length : Nat) : Int).toNat, false⟩ : Rd)) = (x, ⟨t, false⟩) := by
    rw [Int.toNat_natCast, List.take_left, List.drop_left]
  rw [if_neg]
  · exact h1
  · show ¬ (((x.length : Nat) : Int) < 0 ∨ (((x ++ t).length : Nat) : Int) < ((x.length : Nat) : Int) ∨ false = true)
    rw [List.length_append]
    intro h
    rcases h with h | h | h
    · omega
    · omega
    · cases h
theorem read_term {x : Trm} (t : List UInt8) (hf : 0 ≤ x.field ∧ x.field < 9223372036854775808) (hw : x.word.length < 9223372036854775808) (hl : x.list.length < 9223372036854775808) : tRead ⟨tBytes x ++ t, false⟩ = (x, ⟨t, false⟩) := by
  have hn := num_of (n := x.field.toNat) (t := vtext x.word ++ (vtext x.list ++ t)) (b := false) (by omega)
  have h1 := text_vtext x.word (vtext x.list ++ t) hw
  have h2 := text_vtext x.list t hl
  have e : tBytes x ++ t = vnum x.field.toNat ++ (vtext x.word ++ (vtext x.list ++ t)) := by
    unfold tBytes
    rw [vint_pos hf.1]
    simp only [List.append_assoc]
  unfold tRead
  rw [e, hn]
  dsimp only
  rw [h1]
  dsimp only
  rw [h2]
  obtain ⟨f, w, l⟩ := x
  dsimp only at hf ⊢
  rw [Int.toNat_of_nonneg hf.1]
theorem tBytes_ne {x : Trm} (hf : 0 ≤ x.field) : tBytes x ≠ [] := by
  unfold tBytes
  intro h
  rw [List.append_eq_nil_iff, List.append_eq_nil_iff] at h
  exact vint_ne hf h.1.1
/-- What a term is, that its bytes be read back. -/
def Fit (x : Trm) : Prop := (0 ≤ x.field ∧ x.field < 9223372036854775808) ∧ x.word.length < 9223372036854775808 ∧ x.list.length < 9223372036854775808
theorem read_terms : ∀ (ts : List Trm) (f n : Nat) (out : List Trm), (∀ x, x ∈ ts → Fit x) → n = out.length + ts.length → (ts.flatMap tBytes).length ≤ f → readL f n ⟨ts.flatMap tBytes, false⟩ out = (out ++ ts, ⟨[], false⟩)
  | [], f, n, out, _, hn, _ => by
    rw [readL_end]
    · simp
    · rintro ⟨_, h⟩; exact h rfl
  | x :: r, f, n, out, h, hn, hf => by
    obtain ⟨h1, h2, h3⟩ := h x (by simp)
    have hne : (⟨(x :: r).flatMap tBytes, false⟩ : Rd).s ≠ [] := by
      show (x :: r).flatMap tBytes ≠ []
      rw [List.flatMap_cons]
      intro e
      exact tBytes_ne h1.1 (List.append_eq_nil_iff.1 e).1
    rw [List.length_cons] at hn
    obtain ⟨hg, hl⟩ := readL_go (n := n) (ts := out) (f := f) (r := ⟨(x :: r).flatMap tBytes, false⟩) ⟨by omega, hne⟩ hf
    rw [hg]
    rw [List.flatMap_cons] at hl ⊢
    rw [read_term (r.flatMap tBytes) h1 h2 h3] at hl ⊢
    rw [read_terms r (f - 1) n (out ++ [x]) (fun y hy => h y (by simp [hy])) (by rw [List.length_append, List.length_singleton]; omega) hl, List.append_assoc]
    rfl
theorem right_fit {s : Seg} (h : rightP s = true) (hf : SegFew s) : (∀ x, x ∈ s.terms → Fit x) ∧ ∀ x, x ∈ s.docs → 0 ≤ x ∧ x < 9223372036854775808 := by
  have hr := rightP_iff.1 h
  constructor
  · intro x hx
    obtain ⟨k, hk, rfl⟩ := List.getElem_of_mem hx
    have h1 := hr.2 k hk
    unfold termAt at h1
    rw [Bool.and_eq_true, Bool.and_eq_true, Bool.and_eq_true] at h1
    have h2 := of_decide_eq_true h1.1.1.1
    rw [ti_get hk] at h2
    have h3 := hf.each _ hx
    exact ⟨by omega, by omega, by omega⟩
  · intro x hx
    have h1 := (docs_right hr.1).2 x hx
    have : far = 1099511627776 := rfl
    omega
theorem read_raw {s : Seg} (h : rightP s = true) (hf : SegFew s) : readRaw (bytesP s) = (s, ⟨[], false⟩) := by
  obtain ⟨h1, h2⟩ := right_fit h hf
  have hb : bytesP s = vints s.docs ++ (vnum s.terms.length ++ s.terms.flatMap tBytes) := by
    unfold bytesP; rw [if_pos h, List.append_assoc]
  have hn := nums_vints s.docs (vnum s.terms.length ++ s.terms.flatMap tBytes) h2 (by have := hf.docs; omega)
  have hm := num_of (n := s.terms.length) (t := s.terms.flatMap tBytes) (b := false) (by have := hf.terms; omega)
  have ht := read_terms s.terms (bytesP s).length s.terms.length [] h1 (by simp) (by rw [hb]; simp only [List.length_append]; omega)
  unfold readRaw
  dsimp only
  rw [hb] at ht ⊢
  rw [hn]
  dsimp only
  rw [hm]
  dsimp only
  rw [ht]
  rfl
theorem read_bytes {s : Seg} (h : rightP s = true) (hf : SegFew s) : readP (bytesP s) = some s := by
  unfold readP
  rw [read_raw h hf]
  rw [if_pos ⟨rfl, h, rfl⟩]
theorem readL_fewT : ∀ (f n : Nat) (r : Rd) (out : List Trm), (readL f n r out).1.length ≤ out.length + f
  | 0, n, r, out => Nat.le_refl _
  | f + 1, n, r, out => by
    unfold readL
    split
    · have := readL_fewT f n (tRead r).2 (out ++ [(tRead r).1])
      rw [List.length_append, List.length_singleton] at this
      omega
    · show out.length ≤ _; omega
theorem readL_each : ∀ (f n : Nat) (r : Rd) (out : List Trm) (N : Nat), r.s.length ≤ N → (∀ x, x ∈ out → x.word.length ≤ N ∧ x.list.length ≤ N) → ∀ x, x ∈ (readL f n r out).1 → x.word.length ≤ N ∧ x.list.length ≤ N
  | 0, n, r, out, N, _, h => h
  | f + 1, n, r, out, N, hr, h => by
    unfold readL
    split
    · rename_i hc
      have h1 := tRead_less r hc.2
      have h2 := r.num_bound.2
      have h3 := r.num.2.text_le
      have h4 := r.num.2.text.2.text_le
      refine readL_each f n _ _ N (by omega) fun x hx => ?_
      rcases List.mem_append.1 hx with hx | hx
      · exact h x hx
      · rw [List.mem_singleton] at hx
        subst hx
        exact ⟨by show r.num.2.text.1.length ≤ N; omega, by show r.num.2.text.2.text.1.length ≤ N; omega⟩
    · exact h
/-- What is read of a short string is small. -/
theorem raw_few (b : List UInt8) (hb : b.length ≤ 5000) : SegFew (readRaw b).1 := by
  have h1 := (⟨b, false⟩ : Rd).nums_len
  have h2 := Rd.nums_le ⟨b, false⟩
  have h3 := (Rd.nums ⟨b, false⟩).2.num_bound.2
  have h4 : (⟨b, false⟩ : Rd).s.length = b.length := rfl
  refine ⟨?_, ?_, ?_⟩
  · have := readL_fewT b.length (Rd.nums ⟨b, false⟩).2.num.1 (Rd.nums ⟨b, false⟩).2.num.2 []
    show (readL b.length (Rd.nums ⟨b, false⟩).2.num.1 (Rd.nums ⟨b, false⟩).2.num.2 []).1.length ≤ _
    simp only [List.length_nil] at this
    omega
  · show (Rd.nums ⟨b, false⟩).1.length ≤ _
    omega
  · intro x hx
    have := readL_each b.length (Rd.nums ⟨b, false⟩).2.num.1 (Rd.nums ⟨b, false⟩).2.num.2 [] b.length (by omega) (fun x hx => by cases hx) x hx
    omega
end Go.Proofs.YtfinpehbpcckaaaGreatDoor
end
section
namespace Go.Proofs.YtfinpehbpcckaaaGreatDoor
set_option linter.unusedVariables false

/-- A document and a position stand in postings. -/
def Has (l : List Post) (d k : Int) : Prop := ∃ p, p ∈ l ∧ p.doc = d ∧ k ∈ p.places
theorem orP_has {a b : List Post} (ha : Fine a) (hb : Fine b) (d k : Int) : Has (orP a b) d k ↔ Has a d k ∨ Has b d k := orP_mem ha hb d k
theorem encFrom_lenN {N : Nat} : ∀ (l : List Int) (a : Int), 0 ≤ a → (∀ x, x ∈ l → 0 ≤ x ∧ x ≤ 9223372036854775807) → (encFrom a l).length ≤ 9 * l.length
  | [], a, _, _ => by simp [encFrom]
  | n :: r, a, ha, h => by
    have hn := h n (by simp)
    have h1 := vint_len (n - a) (by omega)
    have h2 := encFrom_lenN (N := N) r n hn.1 fun x hx => h x (by simp [hx])
    simp only [encFrom, List.length_append, List.length_cons]; omega
theorem encPosts_lenN {N : Nat} (hN : N < 9223372036854775808) : ∀ (l : List Post) (d : Int), 0 ≤ d → (∀ p, p ∈ l → (0 ≤ p.doc ∧ p.doc ≤ 9223372036854775807) ∧ p.places.length ≤ N ∧ ∀ x, x ∈ p.places → 0 ≤ x ∧ x ≤ 9223372036854775807) → (encPosts d l).length ≤ l.length * (18 + 9 * N)
  | [], d, _, _ => by simp [encPosts]
  | p :: r, d, hd, h => by
    obtain ⟨h0, h1, h2⟩ := h p (by simp)
    have e1 := vint_len (p.doc - d) (by omega)
    have e2 : (vnum p.places.length).length ≤ 9 := vnum_len 9 _ (by have : (128 : Nat) ^ 9 = 9223372036854775808 := rfl; omega) (by omega)
    have e3 := encFrom_lenN (N := N) p.places 0 (Int.le_refl _) h2
    have e4 := encPosts_lenN hN r p.doc h0.1 fun q hq => h q (by simp [hq])
    have e5 : 9 * p.places.length ≤ 9 * N := Nat.mul_le_mul_left 9 h1
    simp only [encPosts, List.length_append, List.length_cons]
    rw [Nat.add_mul, Nat.one_mul]; omega
theorem postsE_sub {U : List Ent} {docs : List Int} {t : Key} (g : Goods U) (hU : EFew U) : ∀ p, p ∈ postsE (evsOf U) docs t → p.places.length ≤ 200 ∧ ∀ x, x ∈ p.places → 0 ≤ x ∧ x ≤ 200 := by
  intro p hp
  obtain ⟨_, h2, h3⟩ := postsE_mem.1 hp
  rw [h3]
  rcases placesE_cases g.apart t p.doc with h4 | ⟨e, he, _, _, h7⟩
  · exact absurd h4 h2
  · rw [h7]
    have h8 := idxs_len t.2 (listP e.text)
    have h9 := list_few e.text
    have h10 := hU.text e he
    refine ⟨by omega, fun x hx => ?_⟩
    obtain ⟨j, rfl, hj⟩ := idxs_mem.1 hx
    have := (List.getElem?_eq_some_iff.1 hj).1
    omega
theorem asc_docs_len {U : List Ent} {s : Seg} (h : Built U s) : s.docs.length ≤ U.length := by
  have e : s.docs = docsP U := asc_ext _ _ h.docs (docsP_asc U) fun d => by rw [h.docs_mem, docsP_mem]
  rw [e]
  have := rUnion_len (U.map (·.doc)) []
  rw [List.length_map] at this
  unfold docsP
  simpa using this
theorem terms_nodup {U : List Ent} {s : Seg} (h : Built U s) : (s.terms.map keyT).Nodup := by
  unfold List.Nodup
  rw [List.pairwise_map]
  refine h.terms.imp fun {a b} hab e => ?_
  have := cmpT_congr (a := a) (b := b) (c := a) (d := a) rfl e.symm
  rw [cmpT_self] at this
  omega
theorem Built.few {U : List Ent} {s : Seg} (h : Built U s) (g : Goods U) (hU : EFew U) : SegFew s := by
  have hd := asc_docs_len h
  have hu := hU.len
  refine ⟨?_, by omega, fun t ht => ?_⟩
  · have h1 := nodup_len (s.terms.map keyT) ((evsOf U).map (·.1)) (terms_nodup h) fun x hx => by
      obtain ⟨t, ht, rfl⟩ := List.mem_map.1 hx
      obtain ⟨e, he, h2⟩ := (h.terms_mem (keyT t)).1 ⟨t, ht, rfl⟩
      exact List.mem_map.2 ⟨e, he, h2⟩
    rw [List.length_map, List.length_map] at h1
    have h2 := evs_few hU.text
    have h3 : 200 * U.length ≤ 200 * 24 := Nat.mul_le_mul_left 200 hu
    omega
  · obtain ⟨e, he, h1⟩ := (h.terms_mem (keyT t)).1 ⟨t, ht, rfl⟩
    obtain ⟨y, hy, _, _, h4⟩ := ev_mem he
    rw [h1] at h4
    have h5 := listP_le y.text _ h4
    have h6 := hU.text y hy
    have hw : t.word.length ≤ 200 := by
      have : (keyT t).2 = t.word := rfl
      rw [this] at h5; omega
    refine ⟨by omega, ?_⟩
    rw [h.lists t ht]
    unfold postEnc
    rw [if_pos (h.right_posts g _)]
    have hsub := postsE_sub (docs := s.docs) (t := keyT t) g hU
    have hpl : (postsE (evsOf U) s.docs (keyT t)).length ≤ 24 := by
      unfold postsE
      rw [List.length_map]
      have := List.length_filter_le (fun d => !(placesE (evsOf U) (keyT t) d).isEmpty) s.docs
      omega
    have h7 := encPosts_lenN (N := 200) (by omega) (postsE (evsOf U) s.docs (keyT t)) 0 (Int.le_refl _) fun p hp => by
      have h8 := h.docs_in g p.doc (postsE_mem.1 hp).1
      have hf : far = 1099511627776 := rfl
      obtain ⟨h9, h10⟩ := hsub p hp
      exact ⟨by omega, h9, fun x hx => by have := h10 x hx; omega⟩
    have h8 : (vnum (postsE (evsOf U) s.docs (keyT t)).length).length ≤ 9 := vnum_len 9 _ (by have : (128 : Nat) ^ 9 = 9223372036854775808 := rfl; omega) (by omega)
    have h9 := Nat.mul_le_mul_right (18 + 9 * 200) hpl
    rw [List.length_append]; omega
theorem Built.valid {U : List Ent} {s : Seg} (h : Built U s) (g : Goods U) (hU : EFew U) : rightP s = true :=
  h.right g fun x hx => by have := (h.few g hU).each x hx; omega
theorem Built.dec {U : List Ent} {s : Seg} (h : Built U s) (g : Goods U) (hU : EFew U) {t : Trm} (ht : t ∈ s.terms) : postDec t.list = some (postsE (evsOf U) s.docs (keyT t)) := by
  have h1 := h.lists t ht
  have h2 := ((h.few g hU).each t ht).2
  rw [h1] at h2 ⊢
  exact postDec_enc (h.right_posts g _) (by omega)
theorem postsE_fine {U : List Ent} {s : Seg} (h : Built U s) (g : Goods U) (t : Key) : Fine (postsE (evsOf U) s.docs t) := fine_of_right (h.right_posts g t)
theorem Built.posts_has {U : List Ent} {s : Seg} (h : Built U s) (t : Key) (d k : Int) : Has (postsE (evsOf U) s.docs t) d k ↔ k ∈ placesE (evsOf U) t d := by
  constructor
  · rintro ⟨p, hp, rfl, hk⟩
    rw [(postsE_mem.1 hp).2.2] at hk
    exact hk
  · intro hk
    have hne : placesE (evsOf U) t d ≠ [] := fun e => by rw [e] at hk; cases hk
    refine ⟨⟨d, placesE (evsOf U) t d⟩, postsE_mem.2 ⟨?_, hne, rfl⟩, rfl, hk⟩
    rw [h.docs_mem]
    refine Classical.byContradiction fun hn => hne (placesE_none fun e he hh => ?_)
    obtain ⟨y, hy, _, h2, _⟩ := ev_mem he
    exact hn ⟨y, hy, by rw [← h2]; exact hh.2⟩
theorem places_key {U : List Ent} {t : Key} {d k : Int} (h : k ∈ placesE (evsOf U) t d) : ∃ e, e ∈ evsOf U ∧ e.1 = t := by
  unfold placesE at h
  obtain ⟨e, he, _⟩ := List.mem_map.1 h
  obtain ⟨h1, h2⟩ := List.mem_filter.1 he
  rw [Bool.and_eq_true] at h2
  exact ⟨e, h1, of_decide_eq_true h2.1⟩
theorem snoc_ind {α : Type} {P : List α → Prop} (h0 : P []) (h1 : ∀ r t, P r → P (r ++ [t])) : ∀ l, P l := by
  have key : ∀ (n : Nat) (l : List α), l.length = n → P l := by
    intro n
    induction n with
    | zero => intro l hl; rw [List.eq_nil_of_length_eq_zero hl]; exact h0
    | succ n ih =>
      intro l hl
      have hne : l ≠ [] := fun e => by rw [e] at hl; cases hl
      rw [← List.dropLast_concat_getLast hne]
      exact h1 _ _ (ih _ (by rw [List.length_dropLast]; omega))
  exact fun l => key l.length l rfl
/-- What is found, term by term. -/
theorem foundL_has {U : List Ent} {s : Seg} (h : Built U s) (g : Goods U) (hU : EFew U) (field : Int) (p : List UInt8 → Bool) : ∀ ts : List Trm, (∀ t, t ∈ ts → t ∈ s.terms) → Fine (foundL ts field p) ∧ ∀ d k, Has (foundL ts field p) d k ↔ ∃ t, t ∈ ts ∧ (field = 0 ∨ field = t.field) ∧ p t.word = true ∧ k ∈ placesE (evsOf U) (keyT t) d := by
  refine snoc_ind ?_ ?_
  · exact fun _ => ⟨Fine.nil_, fun d k => ⟨fun ⟨p, hp, _⟩ => (by cases hp), fun ⟨t, ht, _⟩ => (by cases ht)⟩⟩
  · intro r t ih hs
    obtain ⟨h1, h2⟩ := ih fun x hx => hs x (by simp [hx])
    have hd := h.dec g hU (hs t (by simp))
    rw [foundL_snoc]
    by_cases hc : (field = 0 ∨ field = t.field) ∧ p t.word = true
    · rw [if_pos hc, hd]
      have hf := postsE_fine h g (keyT t)
      refine ⟨orP_fine h1 hf, fun d k => ?_⟩
      show Has (orP (foundL r field p) (postsE (evsOf U) s.docs (keyT t))) d k ↔ _
      rw [orP_has h1 hf, h2]
      show _ ∨ Has (postsE (evsOf U) s.docs (keyT t)) d k ↔ _
      rw [h.posts_has]
      constructor
      · rintro (⟨x, hx, hh⟩ | hh)
        · exact ⟨x, by simp [hx], hh⟩
        · exact ⟨t, by simp, hc.1, hc.2, hh⟩
      · rintro ⟨x, hx, hh⟩
        rcases List.mem_append.1 hx with hx | hx
        · exact .inl ⟨x, hx, hh⟩
        · rw [List.mem_singleton] at hx; subst hx; exact .inr hh.2.2
    · rw [if_neg hc]
      refine ⟨h1, fun d k => ?_⟩
      rw [h2]
      constructor
      · rintro ⟨x, hx, hh⟩; exact ⟨x, by simp [hx], hh⟩
      · rintro ⟨x, hx, hh⟩
        rcases List.mem_append.1 hx with hx | hx
        · exact ⟨x, hx, hh⟩
        · rw [List.mem_singleton] at hx; subst hx; exact absurd ⟨hh.1, hh.2.1⟩ hc
theorem found_has {U : List Ent} {s : Seg} (h : Built U s) (g : Goods U) (hU : EFew U) (field : Int) (p : List UInt8 → Bool) : Fine (foundP s field p) ∧ ∀ d k, Has (foundP s field p) d k ↔ ∃ t, t ∈ s.terms ∧ (field = 0 ∨ field = t.field) ∧ p t.word = true ∧ k ∈ placesE (evsOf U) (keyT t) d := by
  unfold foundP
  rw [if_pos (h.valid g hU)]
  exact foundL_has h g hU field p s.terms fun t ht => ht
theorem look_has {U : List Ent} {s : Seg} (h : Built U s) (g : Goods U) (hU : EFew U) {field : Int} (hf : field ≠ 0) (w : List UInt8) (d k : Int) : Has (lookP s field w) d k ↔ k ∈ placesE (evsOf U) (field, w) d := by
  unfold lookP
  rw [(found_has h g hU field _).2]
  constructor
  · rintro ⟨t, ht, h1, h2, h3⟩
    have e1 : field = t.field := h1.resolve_left hf
    have e2 : t.word = w := of_decide_eq_true h2
    have : keyT t = (field, w) := by rw [e1, ← e2]; rfl
    rwa [this] at h3
  · intro hk
    obtain ⟨t, ht, e⟩ := (h.terms_mem (field, w)).2 (places_key hk)
    obtain ⟨e1, e2⟩ := Prod.mk.inj e
    exact ⟨t, ht, .inr e1.symm, decide_eq_true e2, by rw [e]; exact hk⟩
/-- What a used entry tells. -/
theorem look_entry {U : List Ent} {s : Seg} (h : Built U s) (g : Goods U) (hU : EFew U) {e : Ent} (he : e ∈ U) (w : List UInt8) (k : Nat) : Has (lookP s e.field w) e.doc (k : Int) ↔ (listP e.text)[k]? = some w := by
  have hf := (countsP_iff.1 (g.counts e he)).2
  rw [look_has h g hU (by omega), placesE_in g.apart he w, idxs_mem]
  constructor
  · rintro ⟨j, hj, hw⟩
    have : j = k := by omega
    rw [← this]; exact hw
  · intro hw; exact ⟨k, rfl, hw⟩
end Go.Proofs.YtfinpehbpcckaaaGreatDoor
end
section
namespace Go.Proofs.YtfinpehbpcckaaaGreatDoor
set_option linter.unusedVariables false

def smallE : List Ent := [⟨3, 3, [97, 32, 66, 45, 97]⟩, ⟨2, 4, [97, 98]⟩, ⟨3, 3, [99]⟩, ⟨0, 1, [100]⟩, ⟨5, 2, []⟩]
def smallU : List Ent := [⟨3, 3, [97, 32, 66, 45, 97]⟩, ⟨2, 4, [97, 98]⟩, ⟨5, 2, []⟩]
def smallT1 : Trm := ⟨3, [97], postEnc [⟨3, [0, 2]⟩]⟩
def smallT2 : Trm := ⟨3, [98], postEnc [⟨3, [1]⟩]⟩
def smallT3 : Trm := ⟨4, [97, 98], postEnc [⟨2, [0]⟩]⟩
def smallS : Seg := ⟨[smallT1, smallT2, smallT3], [2, 3, 5]⟩
theorem small_used : usedE smallE = smallU := by kernel_rfl
theorem small_l1 : listP [97, 32, 66, 45, 97] = [[97], [98], [97]] := by decide +kernel
theorem small_l2 : listP [97, 98] = [[97, 98]] := by decide +kernel
theorem small_l3 : listP [] = [] := by decide +kernel
theorem small_evs : evsOf smallU = [((3, [97]), 3, 0), ((3, [98]), 3, 1), ((3, [97]), 3, 2), ((4, [97, 98]), 2, 0)] := by decide +kernel
theorem small_goods : Goods smallU := by
  rw [← small_used]
  exact ⟨usedE_apart _, usedE_counts _, fun e he => by
    rw [small_used] at he
    unfold smallU at he
    simp only [List.mem_cons, List.not_mem_nil, or_false] at he
    rcases he with rfl | rfl | rfl <;> simp⟩
theorem small_efew : EFew smallU := ⟨by unfold smallU; simp, fun e he => by
    unfold smallU at he
    simp only [List.mem_cons, List.not_mem_nil, or_false] at he
    rcases he with rfl | rfl | rfl <;> simp⟩
theorem small_p1 : postsE (evsOf smallU) [2, 3, 5] (3, [97]) = [⟨3, [0, 2]⟩] := by rw [small_evs]; rfl
theorem small_p2 : postsE (evsOf smallU) [2, 3, 5] (3, [98]) = [⟨3, [1]⟩] := by rw [small_evs]; rfl
theorem small_p3 : postsE (evsOf smallU) [2, 3, 5] (4, [97, 98]) = [⟨2, [0]⟩] := by rw [small_evs]; rfl
theorem small_built : Built smallU smallS := by
  refine ⟨by decide, fun d => ?_, ?_, fun t => ?_, fun x hx => ?_⟩
  · unfold smallU smallS
    simp only [List.mem_cons, List.not_mem_nil, or_false]
    constructor
    · rintro (rfl | rfl | rfl)
      · exact ⟨_, .inr (.inl rfl), rfl⟩
      · exact ⟨_, .inl rfl, rfl⟩
      · exact ⟨_, .inr (.inr rfl), rfl⟩
    · rintro ⟨e, rfl | rfl | rfl, rfl⟩
      · exact .inr (.inl rfl)
      · exact .inl rfl
      · exact .inr (.inr rfl)
  · show [smallT1, smallT2, smallT3].Pairwise _
    have h1 : cmpT smallT1 smallT2 < 0 := by show cmpT ⟨3, [97], _⟩ ⟨3, [98], _⟩ < 0; unfold cmpT; decide
    have h2 : cmpT smallT1 smallT3 < 0 := by show cmpT ⟨3, [97], _⟩ ⟨4, [97, 98], _⟩ < 0; unfold cmpT; decide
    have h3 : cmpT smallT2 smallT3 < 0 := by show cmpT ⟨3, [98], _⟩ ⟨4, [97, 98], _⟩ < 0; unfold cmpT; decide
    simp [h1, h2, h3]
  · rw [small_evs]
    show (∃ x, x ∈ [smallT1, smallT2, smallT3] ∧ keyT x = t) ↔ _
    have k1 : keyT smallT1 = (3, [97]) := rfl
    have k2 : keyT smallT2 = (3, [98]) := rfl
    have k3 : keyT smallT3 = (4, [97, 98]) := rfl
    simp only [List.mem_cons, List.not_mem_nil, or_false]
    constructor
    · rintro ⟨x, rfl | rfl | rfl, rfl⟩
      · exact ⟨_, .inl rfl, k1.symm⟩
      · exact ⟨_, .inr (.inl rfl), k2.symm⟩
      · exact ⟨_, .inr (.inr (.inr rfl)), k3.symm⟩
    · rintro ⟨e, rfl | rfl | rfl | rfl, rfl⟩
      · exact ⟨_, .inl rfl, k1⟩
      · exact ⟨_, .inr (.inl rfl), k2⟩
      · exact ⟨_, .inl rfl, k1⟩
      · exact ⟨_, .inr (.inr rfl), k3⟩
  · have hx2 : x ∈ [smallT1, smallT2, smallT3] := hx
    simp only [List.mem_cons, List.not_mem_nil, or_false] at hx2
    rcases hx2 with rfl | rfl | rfl
    · exact (congrArg postEnc small_p1).symm
    · exact (congrArg postEnc small_p2).symm
    · exact (congrArg postEnc small_p3).symm
theorem small_right : rightP smallS = true := small_built.valid small_goods small_efew
theorem small_few : SegFew smallS := small_built.few small_goods small_efew
theorem small_d1 : postDec smallT1.list = some [⟨3, [0, 2]⟩] := (small_built.dec small_goods small_efew (t := smallT1) (by simp [smallS])).trans (congrArg some small_p1)
theorem small_d2 : postDec smallT2.list = some [⟨3, [1]⟩] := (small_built.dec small_goods small_efew (t := smallT2) (by simp [smallS])).trans (congrArg some small_p2)
theorem small_d3 : postDec smallT3.list = some [⟨2, [0]⟩] := (small_built.dec small_goods small_efew (t := smallT3) (by simp [smallS])).trans (congrArg some small_p3)
theorem orP_left (b : Post) : orP [] [b] = [b] := by unfold orP; rw [evs_right, evs_nil]; rfl
theorem small_look1 : lookP smallS 0 [97] = [⟨3, [0, 2]⟩] := by
  unfold lookP foundP
  rw [if_pos small_right]
  show foundL ((([] ++ [smallT1]) ++ [smallT2]) ++ [smallT3]) 0 _ = _
  rw [foundL_snoc, foundL_snoc, foundL_snoc, if_pos (show ((0 : Int) = 0 ∨ (0 : Int) = smallT1.field) ∧ decide (smallT1.word = [97]) = true from ⟨.inl rfl, rfl⟩),
    if_neg (show ¬ (((0 : Int) = 0 ∨ (0 : Int) = smallT2.field) ∧ decide (smallT2.word = [97]) = true) from fun h => absurd h.2 (by decide)),
    if_neg (show ¬ (((0 : Int) = 0 ∨ (0 : Int) = smallT3.field) ∧ decide (smallT3.word = [97]) = true) from fun h => absurd h.2 (by decide)), small_d1]
  exact orP_left _
theorem small_look2 : lookP smallS 4 [97] = [] := by
  unfold lookP foundP
  rw [if_pos small_right]
  show foundL ((([] ++ [smallT1]) ++ [smallT2]) ++ [smallT3]) 4 _ = _
  rw [foundL_snoc, foundL_snoc, foundL_snoc, if_neg (show ¬ (((4 : Int) = 0 ∨ (4 : Int) = smallT1.field) ∧ decide (smallT1.word = [97]) = true) from fun h => absurd h.1 (by decide)),
    if_neg (show ¬ (((4 : Int) = 0 ∨ (4 : Int) = smallT2.field) ∧ decide (smallT2.word = [97]) = true) from fun h => absurd h.2 (by decide)),
    if_neg (show ¬ (((4 : Int) = 0 ∨ (4 : Int) = smallT3.field) ∧ decide (smallT3.word = [97]) = true) from fun h => absurd h.2 (by decide))]
  rfl
theorem small_pref : prefP smallS 0 [97] = [⟨2, [0]⟩, ⟨3, [0, 2]⟩] := by
  unfold prefP foundP
  rw [if_pos small_right]
  show foundL ((([] ++ [smallT1]) ++ [smallT2]) ++ [smallT3]) 0 _ = _
  rw [foundL_snoc, foundL_snoc, foundL_snoc, if_pos (show ((0 : Int) = 0 ∨ (0 : Int) = smallT1.field) ∧ decide ([97] <+: smallT1.word) = true from ⟨.inl rfl, by decide⟩),
    if_neg (show ¬ (((0 : Int) = 0 ∨ (0 : Int) = smallT2.field) ∧ decide ([97] <+: smallT2.word) = true) from fun h => absurd h.2 (by decide)),
    if_pos (show ((0 : Int) = 0 ∨ (0 : Int) = smallT3.field) ∧ decide ([97] <+: smallT3.word) = true from ⟨.inl rfl, by decide⟩), small_d1, small_d3]
  show orP (orP [] [⟨3, [0, 2]⟩]) [⟨2, [0]⟩] = _
  rw [orP_left]
  unfold orP
  rw [evs_gt (show (2 : Int) < 3 by decide), evs_left, evs_nil]
  rfl
theorem small_read : readP (bytesP smallS) = some smallS := read_bytes small_right small_few
theorem bytes_len {s : Seg} (hf : SegFew s) (hd : ∀ x, x ∈ s.docs → x ≤ 9223372036854775807) (ht : ∀ t, t ∈ s.terms → t.field ≤ 9223372036854775807 ∧ t.word.length ≤ 1000) : (bytesP s).length ≤ 300000000 := by
  have h1 : (vnum s.docs.length).length ≤ 9 := vnum_len 9 _ (by have : (128 : Nat) ^ 9 = 9223372036854775808 := rfl; have := hf.docs; omega) (by omega)
  have h2 := vints_len s.docs hd
  have h3 : (vnum s.terms.length).length ≤ 9 := vnum_len 9 _ (by have : (128 : Nat) ^ 9 = 9223372036854775808 := rfl; have := hf.terms; omega) (by omega)
  have h4 : (s.terms.flatMap tBytes).length ≤ 51027 * s.terms.length := flat_len fun t h => by
    have e1 := vint_len t.field (ht t h).1
    have e2 := vtext_len t.word (by have := (ht t h).2; omega)
    have e3 := vtext_len t.list (by have := (hf.each t h).2; omega)
    have e4 := (hf.each t h).2
    have e5 := (ht t h).2
    unfold tBytes
    rw [List.length_append, List.length_append]; omega
  have h5 := hf.docs
  have h6 := Nat.mul_le_mul_left 51027 hf.terms
  unfold bytesP
  split
  · unfold vints
    rw [List.length_append, List.length_append, List.length_append]; omega
  · simp
theorem Built.words {U : List Ent} {s : Seg} (h : Built U s) (g : Goods U) (hU : EFew U) : (∀ x, x ∈ s.docs → x ≤ 9223372036854775807) ∧ ∀ t, t ∈ s.terms → t.field ≤ 9223372036854775807 ∧ t.word.length ≤ 1000 := by
  constructor
  · intro x hx
    have := h.docs_in g x hx
    have hf : far = 1099511627776 := rfl
    omega
  · intro t ht
    obtain ⟨e, he, h1⟩ := (h.terms_mem (keyT t)).1 ⟨t, ht, rfl⟩
    obtain ⟨y, hy, h2, _, h4⟩ := ev_mem he
    rw [h1] at h2 h4
    have h5 := listP_le y.text _ h4
    have h6 := hU.text y hy
    have h7 := (countsP_iff.1 (g.counts y hy)).2
    have e1 : (keyT t).1 = t.field := rfl
    have e2 : (keyT t).2 = t.word := rfl
    rw [e1] at h2
    rw [e2] at h5
    exact ⟨by omega, by omega⟩
theorem Built.bytes {U : List Ent} {s : Seg} (h : Built U s) (g : Goods U) (hU : EFew U) : (bytesP s).length ≤ 300000000 := bytes_len (h.few g hU) (h.words g hU).1 (h.words g hU).2
theorem small_no : readP [0] = none := by decide +kernel
theorem none_right : rightP Seg.none_ = true := by decide
theorem none_bytes : bytesP Seg.none_ = [0, 0] := by
  unfold bytesP
  rw [if_pos none_right]
  show vints [] ++ vnum 0 ++ [] = _
  unfold vints
  rw [show ([] : List Int).length = 0 from rfl, vnum_lt (by decide)]; rfl
theorem two_right : rightP ⟨[], [2, 2]⟩ = false := by decide
end Go.Proofs.YtfinpehbpcckaaaGreatDoor
end
