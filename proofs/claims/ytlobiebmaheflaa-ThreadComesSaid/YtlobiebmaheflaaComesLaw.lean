/- ThreadComes: for every input the law returns true, and the arguments read as before. No condition. -/
import Derived.Test.YtlobiebmaheflaaCame
import Derived.Test.YtlobiebmaheflaaComes
namespace Go.Proofs.Ytlobiebmaheflaa.threadComes
open Go.Proofs.Ytlobiebmaheflaa
open Go.ChangeShapes Go.WideShapes Go.ChangeAt Go.RowKit
set_option linter.unusedVariables false

set_option maxRecDepth 100000 in
/-- One operation that came in by value. -/
theorem deed_arg {H : Type} {enc : TypeId × Value → H} {w : World} {base : Nat} {r : Go.Reach} {fuel : Nat} {v : Value} {x : DataW H × List MemPlace} (q : Value.okWide Try.prog w r base 34 v) (h : DataW.trod enc Try.prog w 0 (fun _ => true) true fuel 34 v.cells.toList = some x) :
    ∃ (d : Deed) (RA : Option Addr) (rn rc : Nat), v = .agg #[.int .i64 d.do_, .int .i64 d.id, .string d.own, .slice RA rn rc, .string d.base] ∧ d.Fit ∧ RefsIn w w.heap.size RA rn rc d.refs := by
  obtain ⟨cs, rfl, hs⟩ := okWide_struct Try.underlying34 q
  rw [cells34] at hs
  obtain ⟨d, RA, rn, rc, e, h1, h2⟩ := deed_cells (cs := cs.toList) (Array.length_toList.trans hs) h
  refine ⟨d, RA, rn, rc, ?_, h1, h2⟩
  congr 1
  exact Array.toList_inj.1 e
set_option maxRecDepth 100000 in
theorem lifted (os : Os) (started : os.Started) (H : Type) (enc : TypeId × Value → H) :
    ReturnsInHanded {} Try.checked os 6 .any (Rows.threadComesSpec.pre6 enc Try.prog Try.f6 Rows.threadComesRow.domain false) (Rows.threadComesSpec.post enc Try.prog Try.f6 false true false false) := by
  refine returnsInHanded_of_change_sized (C := Try.checked) own_ started (by kernel_rfl) Try.func6
    (ChangeSpec.witness6 (enc := enc) (C := Try.checked) false ⟨#[], #[.slice none 0 0, .agg #[.int .i64 0, .int .i64 0, .string ⟨#[]⟩, .slice none 0 0, .string ⟨#[]⟩]], []⟩ 8 (by kernel_rfl) (by kernel_rfl) (by kernel_rfl) (by kernel_rfl)) ?_
  intro W base args ds gs before hval0 hW hcnd hsz0 _
  have hval : ∀ (j : Nat) t v, Try.f6.params[j]? = some t → args[j]? = some v → Value.okWide Try.prog W .any base t v := hval0
  have hW' := hW
  obtain ⟨p, q, hA0, hV, rfl, hfz, hnd⟩ := hW
  have hA : DataW.TrodAll enc Try.prog W 0 (fun _ => true) true Try.f6.params.toList args.toList ds p := hA0
  rw [Try.params6] at hA hval
  obtain ⟨v0, vs0, d0, ds0, p0, q0, hargs, rfl, rfl, h0, r0⟩ := trodAll_cons hA
  obtain ⟨v1, vs1, d1, ds1, p1, q1, rfl, rfl, rfl, h1, r1⟩ := trodAll_cons r0
  obtain ⟨rfl, rfl, rfl⟩ := trodAll_nil r1
  obtain rfl : args = #[v0, v1] := by cases args; simp_all
  obtain ⟨rfl, rfl⟩ := trodVars_none hV
  obtain ⟨a0, len0, cap0, rfl⟩ := okWide_slice Try.underlying22 (hval 0 22 v0 rfl rfl)
  have k0 := h0
  have lt0 : ∀ x ∈ p0, x.block < W.heap.size := by obtain ⟨m, hm⟩ := k0; exact DataW.trod_lt m _ _ _ hm
  obtain ⟨z0, hn0, hc0, w0⟩ : ∃ l, len0 ≤ cap0 ∧ cap0 ≤ maxLen ∧ Deeds W W.heap.size a0 len0 l := by
    obtain ⟨fuel, hf⟩ := h0
    obtain ⟨A', n', c', l, e, b1, b2, b3⟩ := deeds_in (v := .slice a0 len0 cap0) hf
    injection e with e1 e2 e3
    subst e1; subst e2; subst e3
    exact ⟨l, b1, b2, b3⟩
  have k1 := h1
  have lt1 : ∀ x ∈ p1, x.block < W.heap.size := by obtain ⟨m, hm⟩ := k1; exact DataW.trod_lt m _ _ _ hm
  obtain ⟨m1, MA1, mn1, mc1, rfl, mf1, mr1⟩ : ∃ (d : Deed) (RA : Option Addr) (rn rc : Nat), v1 = .agg #[.int .i64 d.do_, .int .i64 d.id, .string d.own, .slice RA rn rc, .string d.base] ∧ d.Fit ∧ RefsIn W W.heap.size RA rn rc d.refs := by
    obtain ⟨fuel, hf⟩ := h1
    exact deed_arg (hval 1 34 v1 rfl rfl) hf
  clear hA0 hval0
  refine (comes_any a0 len0 cap0 z0 m1 MA1 mn1 mc1 W w0 hn0 hc0 mf1 mr1).mono fun e W' ⟨he, bel⟩ => ?_
  subst he
  exact ⟨_, rfl, _, _, _, [], _, [], hW', trodAll_mk1 (shut_bool Try.underlying4 _), (trodAll_cons_mk (Below.trod Try.laidOut (by kernel_rfl) (of_decide_eq_true (by kernel_rfl)) k0 bel lt0) (trodAll_cons_mk (Below.trod Try.laidOut (by kernel_rfl) (of_decide_eq_true (by kernel_rfl)) k1 bel lt1) trodAll_mk0)), rfl, bel.frame _, fun h => by cases h⟩

theorem over : Rows.threadComesRow.holds Try.pinned (OpenSpec.ofChange Rows.threadComesSpec) :=
  OpenClaim.holds_of_wide 6 Try.f6 rfl rfl rfl rfl rfl rfl rfl ⟨rfl, rfl, rfl, rfl, rfl⟩ rfl rfl rfl rfl rfl (by kernel_rfl) Try.func6 (by kernel_rfl)
    (of_decide_eq_true (by kernel_rfl)) (by unfold Func.isWrapper; first | (rw [if_pos (by decide +kernel)]; kernel_rfl) | (rw [if_neg (by decide +kernel)]; exact ⟨rfl, rfl⟩))
    (fun os started H enc _ => lifted os started H enc)

theorem proved : Rows.ThreadComesSaid := over
#print axioms proved
end Go.Proofs.Ytlobiebmaheflaa.threadComes
