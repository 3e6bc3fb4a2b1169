/- CtypeFolds, plain: what Write lays has no blank at its ends; a field of it is read back. -/
import Derived.Test.YtnpgnohlcphfnaaGreatDoorFoldP
import Derived.Test.YtnpgnohlcphfnaaGreatDoorBack
namespace Go.Proofs.YtnpgnohlcphfnaaGreatDoor
open Go.RowKit
set_option linter.unusedVariables false

def EndOk (l : List UInt8) : Prop := ∃ a c, l = a ++ [c] ∧ tabB c = false
theorem EndOk.app {l : List UInt8} (h : EndOk l) (p : List UInt8) : EndOk (p ++ l) := by
  obtain ⟨a, c, rfl, h2⟩ := h
  exact ⟨p ++ a, c, by simp, h2⟩
theorem tab_range {c : UInt8} (h : 33 ≤ c) : tabB c = false := by
  have h5 : (33 : UInt8).toNat ≤ c.toNat := UInt8.le_iff_toNat_le.1 h
  have h6 : c ≠ 32 := fun e => by rw [e] at h5; exact absurd h5 (by decide)
  have h7 : c ≠ 9 := fun e => by rw [e] at h5; exact absurd h5 (by decide)
  unfold tabB
  simp [h6, h7]
theorem hexU_tab : ∀ n, n < 16 → tabB (hexU n) = false := by decide
theorem last_ex {v : List UInt8} (h : v ≠ []) : ∃ a c, v = a ++ [c] := ⟨v.dropLast, v.getLast h, (List.dropLast_concat_getLast h).symm⟩
theorem fmt_end (v : List UInt8) : EndOk (fmtV v) := by
  unfold fmtV
  split
  · rename_i h
    obtain ⟨a, c, rfl⟩ := last_ex h.1
    refine ⟨61 :: a, c, rfl, tab_range ?_⟩
    have h2 := List.all_eq_true.1 h.2 c (by simp)
    rw [Bool.and_eq_true, decide_eq_true_iff] at h2
    exact h2.1.1
  · rename_i h
    split
    · exact ⟨_, 34, rfl, by decide⟩
    · rename_i h2
      have hv : v ≠ [] := by
        rintro rfl
        exact h2 rfl
      obtain ⟨a, c, rfl⟩ := last_ex hv
      rw [List.flatMap_append, ← List.append_assoc]
      refine EndOk.app ?_ _
      rw [List.flatMap_cons, List.flatMap_nil, List.append_nil]
      split
      · rename_i hc
        refine ⟨[], c, rfl, ?_⟩
        rcases hc with hc | rfl | rfl | rfl | rfl
        · unfold letterB at hc
          simp only [Bool.or_eq_true, decide_eq_true_eq] at hc
          apply tab_range
          rw [UInt8.le_iff_toNat_le]
          rcases hc with (⟨h1, _⟩ | ⟨h1, _⟩) | ⟨h1, _⟩
          · have := UInt8.le_iff_toNat_le.1 h1; exact Nat.le_trans (by decide) this
          · have := UInt8.le_iff_toNat_le.1 h1; exact Nat.le_trans (by decide) this
          · have := UInt8.le_iff_toNat_le.1 h1; exact Nat.le_trans (by decide) this
        · decide
        · decide
        · decide
        · decide
      · exact ⟨[37, hexU (c.toNat / 16)], hexU (c.toNat % 16), rfl, hexU_tab _ (Nat.mod_lt _ (by decide))⟩
theorem word_tab {l : List UInt8} (h : isWord l = true) : ∀ c ∈ l, tabB c = false := fun c hc => u8_all (fun c => wordB c = true → tabB c = false) (by decide +kernel) c ((isWord_all h).1 c hc)
theorem word_end {l : List UInt8} (h : isWord l = true) : EndOk l := by
  have hne : l ≠ [] := by
    rintro rfl
    cases h
  obtain ⟨a, c, rfl⟩ := last_ex hne
  exact ⟨a, c, rfl, word_tab h c (by simp)⟩
theorem line_end {kind sub : List UInt8} (hs : isWord sub = true) (ps : List (List UInt8 × List UInt8)) : EndOk (lineP (kind ++ [47] ++ sub) ps) := by
  unfold lineP
  by_cases h : ps = []
  · subst h
    rw [List.flatMap_nil, List.append_nil]
    exact (word_end hs).app _
  · obtain ⟨qs, p, rfl⟩ : ∃ qs p, ps = qs ++ [p] := ⟨ps.dropLast, ps.getLast h, (List.dropLast_concat_getLast h).symm⟩
    rw [List.flatMap_append, List.flatMap_cons, List.flatMap_nil, List.append_nil, ← List.append_assoc]
    exact ((fmt_end p.2).app _).app _
theorem line_head {kind sub : List UInt8} (hk : isWord kind = true) (ps : List (List UInt8 × List UInt8)) : ∃ c r, lineP (kind ++ [47] ++ sub) ps = c :: r ∧ tabB c = false := by
  cases kind with
  | nil => cases hk
  | cons c r => exact ⟨c, _, rfl, word_tab hk c (by simp)⟩
def ctName : List UInt8 := [67, 111, 110, 116, 101, 110, 116, 45, 84, 121, 112, 101]
def ctSmall : List UInt8 := [99, 111, 110, 116, 101, 110, 116, 45, 116, 121, 112, 101]
theorem get_small (fs : List Fld) : getP fs ctSmall = getP fs ctName := rfl
/-- What a type is written into, in a folded field, is read back. -/
structure FoldT (L : List UInt8) (fs : List Fld) (k : Nat) : Prop where
  head : headP (putP ctName L ++ [13, 10]) = (fs, k)
  get : getP fs ctSmall = some L
  few : ∀ f ∈ fs, f.name.length ≤ 1000000000 ∧ f.value.length ≤ 1000000000
  one : fs.length ≤ 1000000000
  put : (putP ctName L).length ≤ 100000000
theorem fold_back {kind sub : List UInt8} {ps : List (List UInt8 × List UInt8)} (h : RightT kind sub ps) (hb : BackT kind sub ps) : ∃ fs k, FoldT (lineP (kind ++ [47] ++ sub) ps) fs k := by
  obtain ⟨c, r, hcr, hct⟩ := line_head (sub := sub) h.kw ps
  obtain ⟨a, d, had, hdt⟩ := line_end (kind := kind) h.sw ps
  have hp := hb.print
  have hlen := hb.one
  obtain ⟨L, hL⟩ : ∃ L, lineP (kind ++ [47] ++ sub) ps = L := ⟨_, rfl⟩
  rw [hL] at hcr had hp hlen ⊢
  have h13 : (13 : UInt8) ∉ L := fun hm => absurd (hp _ hm).1 (by decide)
  have h10 : (10 : UInt8) ∉ L := fun hm => absurd (hp _ hm).1 (by decide)
  have hf : TrimFix L := by
    constructor
    · intro x hx
      rw [hcr] at hx
      have : c = x := Option.some.inj hx
      rw [← this]; exact hct
    · intro x hx
      rw [had] at hx
      simp at hx
      rw [← hx]; exact hdt
  obtain ⟨raw, h1, h2⟩ := put_read (name := ctName) (v := L) (by decide) (by rw [hcr]; simp) h13 h10 hf
  have hfl := foldG_len L.length true (ctName.length + 2) L
  have hput : (putP ctName L).length ≤ 100000000 := by
    unfold putP
    rw [if_pos (by decide), air_fix h13 h10, trimS_fix hf]
    unfold foldV
    rw [List.length_append, List.length_append, List.length_append]
    have e : ctName.length = 12 := rfl
    simp only [e, List.length_cons, List.length_nil] at hfl ⊢
    omega
  refine ⟨_, _, h1, by rw [get_small]; exact h2, ?_, by simp, hput⟩
  intro f hf
  rw [List.mem_singleton] at hf
  subst hf
  constructor
  · show ctName.length ≤ _
    decide
  · show (32 :: foldV ctName L).length ≤ _
    unfold foldV
    rw [List.length_cons]
    omega
end Go.Proofs.YtnpgnohlcphfnaaGreatDoor
