/- What the bound of the second form gives of a content type that came in. -/
import Derived.Test.YtnpgnohlcphfnaaGreatDoorM17
import Derived.Test.YtnpgnohlcphfnaaGreatDoorBack
namespace Go.Proofs.YtnpgnohlcphfnaaGreatDoor
open Go.RowKit
set_option linter.unusedVariables false

theorem size_bulk {H : Type} : ∀ ts : List (List UInt8 × List UInt8), sizeP ts ≤ Rows.uptoBulkAll (ts.map (parD (H := H)))
  | [] => Nat.zero_le _
  | p :: r => by
    have ih := size_bulk (H := H) r
    show p.1.length + p.2.length + sizeP r ≤ Rows.uptoBulk (parD p) + Rows.uptoBulkAll (r.map parD)
    have h : Rows.uptoBulk (parD (H := H) p) = p.1.length + 1 + (p.2.length + 1 + 0) + 1 := by
      unfold parD
      simp only [Rows.uptoBulkAll, Rows.uptoBulk]
    omega
theorem bulk_typ {H : Type} {d0 d : DataW H} {k s : List UInt8} {ts : List (List UInt8 × List UInt8)} (hx : d0 = .agg [.lit (.string k), .lit (.string s), d]) (hd : ts = [] ∧ d = .nil ∨ ∃ r, d = .slice (ts.map parD) r) (hb : Rows.uptoBulkAll [d0] ≤ 1048576) : k.length + s.length + sizeP ts ≤ 1048576 := by
  subst hx
  have e : Rows.uptoBulkAll [DataW.agg [.lit (.string k), .lit (.string s), d]] = (k.length + 1 + (s.length + 1 + (Rows.uptoBulk d + 0)) + 1) + 0 := by
    simp only [Rows.uptoBulkAll, Rows.uptoBulk]
  rw [e] at hb
  rcases hd with ⟨rfl, rfl⟩ | ⟨r, rfl⟩
  · have : sizeP [] = 0 := rfl
    omega
  · have h1 := size_bulk (H := H) ts
    have h2 : Rows.uptoBulk (DataW.slice (ts.map (parD (H := H))) r) = Rows.uptoBulkAll (ts.map (parD (H := H))) + Rows.uptoBulkAll r + 1 := by simp only [Rows.uptoBulk]
    omega
end Go.Proofs.YtnpgnohlcphfnaaGreatDoor
