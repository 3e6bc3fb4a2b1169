/- Reference 12, plain: the search from behind for the last '*'. -/
import Derived.Test.YtnpgnohlcphfnaaGreatDoorRFir
import Derived.Test.YtnpgnohlcphfnaaGreatDoorM08
namespace Go.Proofs.YtnpgnohlcphfnaaGreatDoor
open Go.RowKit
set_option linter.unusedVariables false

theorem lastP_at {c : UInt8} {a b : List UInt8} (h : c ∉ b) : lastP c (a ++ c :: b) = some (a, b) := by
  unfold lastP
  have e : (a ++ c :: b).reverse = b.reverse ++ c :: a.reverse := by simp
  rw [e, cut_app (a := b.reverse) (b := a.reverse) (by simpa using h)]
  simp
/-- From k on there is no '*'. -/
def LsRel (m : List UInt8) (k : Nat) : Prop := (42 : UInt8) ∉ m.drop k
theorem ls_step {m : List UInt8} {k : Nat} (hk : k < m.length) (h : LsRel m (k + 1)) (hne : m[k] ≠ 42) : LsRel m k := by
  unfold LsRel
  rw [List.drop_eq_getElem_cons hk, List.mem_cons]
  rintro (h1 | h1)
  · exact hne h1.symm
  · exact h h1
theorem ls_hit {m : List UInt8} {k : Nat} (hk : k < m.length) (h : LsRel m (k + 1)) (he : m[k] = 42) : lastP 42 m = some (m.take k, m.drop (k + 1)) := by
  have e : m = m.take k ++ 42 :: m.drop (k + 1) := by
    conv => lhs; rw [← List.take_append_drop k m, List.drop_eq_getElem_cons hk, he]
  have h2 := lastP_at (a := m.take k) h
  rw [← e] at h2
  exact h2
theorem ls_end {m : List UInt8} (h : LsRel m 0) : lastP 42 m = none := no_last (by unfold LsRel at h; rw [List.drop_zero] at h; exact h)
end Go.Proofs.YtnpgnohlcphfnaaGreatDoor
