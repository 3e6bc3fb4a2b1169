/- The program's Diff on lists of at most 1,024 elements. -/
import Derived.Test.YtfnbchbndmbjaaaDiffParts
import Derived.Laws.EntriesVeiled
namespace Go.Proofs.Ytfnbchbndmbjaaa
open Go.RowKit
set_option linter.unusedVariables false

def Dst.Le (d : Dst) (N : Nat) : Prop := d.at_ ≤ N ∧ d.out.length ≤ N ∧ (∀ s ∈ d.out, s.at_ ≤ N ∧ s.drop ≤ N ∧ s.add.length ≤ N) ∧ (d.opened = true → d.out ≠ [])
theorem mem_mapLast {f : Spl → Spl} {l : List Spl} {s : Spl} (h : s ∈ mapLast f l) : s ∈ l ∨ ∃ t ∈ l, s = f t := by
  induction l using mapLast.induct with
  | case1 => cases h
  | case2 x => simp [mapLast] at h; exact .inr ⟨x, by simp, h⟩
  | case3 x y r ih =>
    simp only [mapLast, List.mem_cons] at h
    rcases h with h | h
    · exact .inl (by simp [h])
    · rcases ih h with h | ⟨t, ht, h⟩
      · exact .inl (List.mem_cons_of_mem _ h)
      · exact .inr ⟨t, List.mem_cons_of_mem _ ht, h⟩
theorem Dst.Le.last {d : Dst} {N : Nat} (h : d.Le N) : d.last.length ≤ N + 1 ∧ (∀ s ∈ d.last, s.at_ ≤ N ∧ s.drop ≤ N ∧ s.add.length ≤ N) ∧ d.last ≠ [] := by
  obtain ⟨h1, h2, h3, h4⟩ := h
  unfold Dst.last
  by_cases ho : d.opened = true
  · rw [if_pos ho]; exact ⟨by omega, h3, h4 ho⟩
  · rw [if_neg ho]
    refine ⟨by simp; omega, fun s hs => ?_, by simp⟩
    rcases List.mem_append.1 hs with hs | hs
    · exact h3 s hs
    · rw [List.mem_singleton] at hs; subst hs
      exact ⟨h1, Nat.zero_le _, Nat.zero_le _⟩
theorem mapLast_ne {f : Spl → Spl} {l : List Spl} (h : l ≠ []) : mapLast f l ≠ [] := fun e => h (List.eq_nil_of_length_eq_zero (by rw [← mapLast_length f l, e]; rfl))
theorem Dst.Le.step {d : Dst} {N : Nat} (h : d.Le N) (x : Ev) : (d.step x).Le (N + 1) := by
  obtain ⟨l1, l2, l3⟩ := h.last
  obtain ⟨h1, h2, h3, h4⟩ := h
  cases x with
  | keep n => exact ⟨by simp [Dst.step]; omega, by simp [Dst.step]; omega, fun s hs => by have := h3 s hs; omega, fun hh => by cases hh⟩
  | del n =>
    refine ⟨by simp [Dst.step]; omega, by simp only [Dst.step, mapLast_length]; exact l1, fun s hs => ?_, fun _ => mapLast_ne l3⟩
    rcases mem_mapLast hs with hs | ⟨t, ht, rfl⟩
    · have := l2 s hs; omega
    · have := l2 t ht; simp; omega
  | ins n =>
    refine ⟨by simp [Dst.step]; omega, by simp only [Dst.step, mapLast_length]; exact l1, fun s hs => ?_, fun _ => mapLast_ne l3⟩
    rcases mem_mapLast hs with hs | ⟨t, ht, rfl⟩
    · have := l2 s hs; omega
    · have := l2 t ht; simp; omega
theorem Dst.run_snoc (d : Dst) (e : List Ev) (x : Ev) : d.run (e ++ [x]) = (d.run e).step x := by simp [Dst.run]
theorem Dst.Le.run {d : Dst} {N : Nat} (h : d.Le N) (e : List Ev) : (d.run e).Le (N + e.length) := by
  induction e generalizing d N with
  | nil => exact h
  | cons x e ih =>
    have := ih (h.step x)
    rw [List.length_cons, show N + (e.length + 1) = N + 1 + e.length by omega]
    exact this
theorem Dst.zero_le (evs : List Ev) : (Dst.zero.run evs).Le evs.length := by
  have h0 : Dst.zero.Le 0 := ⟨Nat.le_refl _, Nat.le_refl _, (fun s hs => by cases hs), fun h => by cases h⟩
  simpa using h0.run evs

def DiffI (S : Nat) (evs : List Ev) (F : Nat → Prop) (w : World) : Prop :=
  ∃ v ps, DSt S w v ps (Dst.zero.run evs).at_ (Dst.zero.run evs).opened ∧ ps.map (·.1) = (Dst.zero.run evs).out ∧ ∀ k, F k ↔ foot S v ps k

theorem Turn.iff {F F' G G' : Nat → Prop} {w w' : World} (h : Turn F F' w w') (hG : ∀ k, G k ↔ F k) (hG' : ∀ k, G' k ↔ F' k) : Turn G G' w w' :=
  ⟨h.os, h.tape, h.output, h.size, fun k hk hn => h.block k hk (fun hf => hn ((hG k).2 hf)), fun k hk => (h.foot k ((hG' k).1 hk)).imp (fun hf => (hG k).2 hf) id⟩

theorem opened_map {evs : List Ev} {ps qs : List (Spl × Value)} {s : Spl} {a : Value} (hp : ps.map (·.1) = (Dst.zero.run evs).out) (h : opened ps (Dst.zero.run evs).at_ (Dst.zero.run evs).opened = qs ++ [(s, a)]) :
    (Dst.zero.run evs).last = qs.map (·.1) ++ [s] := by
  have h1 := congrArg (List.map (·.1)) h
  unfold opened at h1
  unfold Dst.last
  rw [← hp]
  by_cases ho : (Dst.zero.run evs).opened = true
  · rw [if_pos ho] at h1 ⊢; simpa using h1
  · rw [if_neg ho] at h1 ⊢; simpa using h1

theorem diffSinks (S : Nat) : Sinks 4096 29 30 31 #[.pointer (some ⟨S + 1, 0, none⟩), .pointer (some ⟨S + 2, 0, none⟩)] #[.pointer (some ⟨S + 3, 0, none⟩)] #[.pointer (some ⟨S + 3, 0, none⟩), .pointer (some ⟨S + 1, 0, none⟩)] (DiffI S) where
  keep evs F w n hl h hn := by
    obtain ⟨v, ps, h1, h2, h3⟩ := h
    have hle := Dst.zero_le evs
    refine (pass_any S w v _ _ ps n h1 (by have := hle.1; omega)).mono fun e w' ⟨he, hd, hT⟩ => ⟨he, foot S v ps, ⟨v, ps, ?_, ?_, fun k => Iff.rfl⟩, hT.iff h3 (fun k => Iff.rfl)⟩
    · rw [Dst.run_snoc]; exact hd
    · rw [Dst.run_snoc]; exact h2
  del evs F w n hl h hn := by
    obtain ⟨v, ps, h1, h2, h3⟩ := h
    have hle := Dst.zero_le evs
    have hpl : ps.length = (Dst.zero.run evs).out.length := by rw [← h2]; simp
    have hmem : ∀ p ∈ ps, p.1 ∈ (Dst.zero.run evs).out := fun p hp => by rw [← h2]; exact List.mem_map_of_mem hp
    refine (del_any S w v _ _ ps n h1 (fun ho e => hle.2.2.2 ho (by rw [← h2, e]; rfl)) (by have := hle.2.1; omega) (fun p hp => by have := (hle.2.2.1 _ (hmem p hp)).2.1; omega)).mono fun e w' hp => ?_
    obtain ⟨he, g, c, qs, s, a, hq, hd, hT⟩ := hp
    refine ⟨he, _, ⟨_, _, ?_, ?_, fun k => Iff.rfl⟩, hT.iff h3 (fun k => Iff.rfl)⟩
    · rw [Dst.run_snoc]; exact hd
    · rw [Dst.run_snoc]
      simp only [Dst.step]
      rw [opened_map h2 hq, mapLast_snoc]
      simp
  ins evs F w n hl h hn := by
    obtain ⟨v, ps, h1, h2, h3⟩ := h
    have hle := Dst.zero_le evs
    have hpl : ps.length = (Dst.zero.run evs).out.length := by rw [← h2]; simp
    have hmem : ∀ p ∈ ps, p.1 ∈ (Dst.zero.run evs).out := fun p hp => by rw [← h2]; exact List.mem_map_of_mem hp
    refine (ins_any S w v _ _ ps n hn h1 (fun ho e => hle.2.2.2 ho (by rw [← h2, e]; rfl)) (by have := hle.2.1; omega) (fun p hp => by have := (hle.2.2.1 _ (hmem p hp)).2.2; omega) (by have := hle.1; omega)).mono fun e w' hp => ?_
    obtain ⟨he, g, c, qs, s, a, a', hq, hd, hT⟩ := hp
    refine ⟨he, _, ⟨_, _, ?_, ?_, fun k => Iff.rfl⟩, hT.iff h3 (fun k => Iff.rfl)⟩
    · rw [Dst.run_snoc]; exact hd
    · rw [Dst.run_snoc]
      simp only [Dst.step]
      rw [opened_map h2 hq, mapLast_snoc]
      simp
  kc := callable_of Try.func29 (by kernel_rfl) (by kernel_rfl)
  dc := callable_of Try.func30 (by kernel_rfl) (by kernel_rfl)
  ic := callable_of Try.func31 (by kernel_rfl) (by kernel_rfl)
  stays evs F w w' h hb := by
    obtain ⟨v, ps, h1, h2, h3⟩ := h
    exact ⟨v, ps, ⟨h1.out.block (hb.block _ h1.out.lt), h1.pos.block (hb.block _ h1.pos.lt), h1.opn.block (hb.block _ h1.opn.lt), h1.fn.block (hb.block _ h1.fn.lt), h1.own.below hb⟩, h2, h3⟩
  within evs F w h k hk := by
    obtain ⟨v, ps, h1, h2, h3⟩ := h
    rcases (h3 k).1 hk with ⟨_, hk⟩ | hk | ⟨p, hp, hk⟩
    · have := h1.fn.lt; omega
    · exact (h1.own.row.lt k hk).2
    · exact ((h1.own.adds p hp).1.lt k hk).2

theorem Box1.new' {w : World} {k : Nat} (v : Value) (t : TypeId) (hk : k = w.heap.size) : Box1 (w.alloc (.cells #[v] t)) k v t := by subst hk; exact Box1.new w v t

set_option maxHeartbeats 400000 in
theorem diff_small (A B : Option Addr) (n m c d : Nat) (a b : List Int) (w : World) (ha : Ints w w.heap.size A n a) (hb : Ints w w.heap.size B m b) (hn : n ≤ 1024) (hm : m ≤ 1024) (hnc : n ≤ c) (hmd : m ≤ d) (hc63 : c ≤ maxLen) (hd63 : d ≤ maxLen) :
    Calls Try.prog 15 #[.slice A n c, .slice B m d] w fun e w' => ∃ v ps, e = .returned v ∧ OwnPs w' w.heap.size v ps ∧ ps.map (·.1) = (Dst.zero.run (align a b)).out ∧ Below w.heap.size w w' := by
  have hmf : ∀ (fn : Fn) (first cap : Array Value) (w : World), (Instr.makeFunc fn first cap).run Try.prog w = .ok (.func fn first cap) w := fun _ _ _ _ => rfl
  have hlen := align_len _ a b (Nat.le_refl _)
  rw [ha.len, hb.len] at hlen
  have HL := Lib.hid hlen; clear hlen
  go_enter Try.func15, Try.ntmps15
  go_wp2_with fail
  have hI : DiffI w.heap.size [] (foot w.heap.size (.slice none 0 0) []) ((((w.alloc (.cells #[.slice none 0 0] 27)).alloc (.cells #[.int .i64 0] 3)).alloc (.cells #[.bool false] 4)).alloc
      (.cells #[.func (.func 28) #[] #[.pointer (some ⟨w.heap.size + 2, 0, none⟩), .pointer (some ⟨w.heap.size, 0, none⟩), .pointer (some ⟨w.heap.size + 1, 0, none⟩)]] 40)) :=
    ⟨_, [], ⟨(((Box1.new _ _ _).alloc _).alloc _).alloc _, ((Box1.new' _ _ (by simp)).alloc _).alloc _, (Box1.new' _ _ (by simp)).alloc _, Box1.new' _ _ (by simp), OwnPs.nil_ _ _⟩, rfl, fun k => Iff.rfl⟩
  have hb0 : Below w.heap.size w ((((w.alloc (.cells #[.slice none 0 0] 27)).alloc (.cells #[.int .i64 0] 3)).alloc (.cells #[.bool false] 4)).alloc
      (.cells #[.func (.func 28) #[] #[.pointer (some ⟨w.heap.size + 2, 0, none⟩), .pointer (some ⟨w.heap.size, 0, none⟩), .pointer (some ⟨w.heap.size + 1, 0, none⟩)]] 40)) :=
    ((((Below.refl _ _).alloc (Nat.le_refl _) _).alloc (by simp) _).alloc (by simp; omega) _).alloc (by simp; omega) _
  refine (walk_any (diffSinks w.heap.size) [] a b (by simp; have := HL.out; omega) _ w.heap.size A B n m c d _ (ha.below hb0) (hb.below hb0) hn hm hnc hmd hc63 hd63 hb0.size ?_ hI).mono ?_
  · rintro k (⟨h, _⟩ | h | ⟨p, hp, _⟩)
    · exact h
    · cases h
    · cases hp
  rintro e w1 ⟨⟨r, rfl⟩, F', ⟨v, ps, h1, h2, h3⟩, hT⟩
  have hc1 := h1.out.cell
  have HT := Lib.hid hT
  have H1 := Lib.hid (And.intro h1 h2)
  have hown := h1.own
  clear hT h1 h2
  have hv : ∃ A1 n1 c1, v = .slice A1 n1 c1 := by
    rcases hown.row.2 with ⟨rfl, _⟩ | ⟨g, cap, cur, rfl, _⟩ <;> exact ⟨_, _, _, rfl⟩
  obtain ⟨A1, n1, c1, rfl⟩ := hv
  go_wp2
  go_ret
  have hT := HT.out
  refine ⟨_, ps, rfl, ⟨?_, fun p hp => (hown.adds p hp).mono (by omega), hown.apart⟩, H1.out.2, hT.os, hT.tape, hT.output, Nat.le_trans hb0.size hT.size, fun k hk => ?_⟩
  · obtain ⟨r1, r2⟩ := hown.row
    exact ⟨r1, r2.imp id fun ⟨g, cap, cur, a, b, r⟩ => ⟨g, cap, cur, a, Nat.le_trans (by omega) b, r⟩⟩
  · rw [hT.block k (Nat.lt_of_lt_of_le hk hb0.size) ?_]
    · exact hb0.block k hk
    · rintro (⟨h, _⟩ | h | ⟨p, hp, _⟩)
      · omega
      · cases h
      · cases hp
end Go.Proofs.Ytfnbchbndmbjaaa
