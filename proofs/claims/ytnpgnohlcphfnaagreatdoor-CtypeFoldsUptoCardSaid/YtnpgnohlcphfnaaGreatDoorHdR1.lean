/- Layer 9: strings.NewReplacer of the line ends and blanks (printed by gen_hdr.py). -/
import Derived.Test.YtnpgnohlcphfnaaGreatDoorM09
import Derived.Test.YtnpgnohlcphfnaaGreatDoorHdP
namespace Go.Proofs.YtnpgnohlcphfnaaGreatDoor
open Go.RowKit
set_option linter.unusedVariables false

def airStrs : List (List UInt8) := [[13], [32], [10], [32]]
/-- A new Replacer. -/
structure AirRepAt (w w' : World) (b g c : Nat) : Prop where
  low : w.heap.size ≤ b
  row : RowV w' b 5 (repF 0 0 .nilIface (.slice (some ⟨g, 0, none⟩) 4 c))
  glow : w.heap.size ≤ g
  glt : g < w'.heap.size
  ne : g ≠ b
  strs : ∀ j u, (sv airStrs)[j]? = some u → w'.cell? ((⟨g, 0, none⟩ : Addr).add j) = some u
  bel : Below w.heap.size w w'
def AirRep (w : World) (e : Ending) (w' : World) : Prop := ∃ b g c, e = .returned (.pointer (some ⟨b, 0, none⟩)) ∧ AirRepAt w w' b g c
theorem airrep_fin {w w2 : World} {g c : Nat} (hg : w.heap.size ≤ g) (hg2 : g < w2.heap.size) (hs : ∀ j u, (sv airStrs)[j]? = some u → w2.cell? ((⟨g, 0, none⟩ : Addr).add j) = some u) (hb : Below w.heap.size w w2) :
    AirRep w (.returned (.pointer (some ⟨w2.heap.size, 0, none⟩))) (w2.alloc (.cells #[.int .u32 0, .int .i32 0, .int .u32 0, .nilIface, .slice (some ⟨g, 0, none⟩) 4 c] 124)) := by
  have hsz := hb.size
  refine ⟨_, g, c, rfl, hsz, RowV.made _ _ _ fun j hj => ?_, hg, by simp; omega, by omega, fun j u hu => ?_, hb.alloc hsz _⟩
  · match j, hj with
    | 0, _ => rfl
    | 1, _ => rfl
    | 2, _ => rfl
    | 3, _ => rfl
    | 4, _ => rfl
  · have h := hs j u hu
    rw [add_base] at h ⊢
    rw [World.cell?_alloc_past _ _ _ hg2]
    exact h
theorem own_air4 {w2 : World} {B : Nat} {v2 : Value} (h1 : OwnStrs w2 B v2 ([] ++ airStrs)) : ∃ g c, v2 = .slice (some ⟨g, 0, none⟩) 4 c ∧ B ≤ g ∧ g < w2.heap.size ∧ ∀ j u, (sv airStrs)[j]? = some u → w2.cell? ((⟨g, 0, none⟩ : Addr).add j) = some u := by
  have h0 := h1
  rcases h1.2 with ⟨_, hn⟩ | ⟨g, cap, cur, rfl, hb, hg, h5⟩
  · exact absurd hn (by decide)
  · exact ⟨g, cap, rfl, hb, heap_lt hg, fun j u hu => World.ownsRow.cells h0 (g := g) rfl j u hu⟩
set_option maxRecDepth 100000 in
set_option maxHeartbeats 4000000 in
theorem airrep_any (X c : Nat) (w : World) (hX : ∀ j u, (sv airStrs)[j]? = some u → w.cell? ((⟨X, 0, none⟩ : Addr).add j) = some u) :
    Calls Tryz.prog 57 #[.slice (some ⟨X, 0, none⟩) 4 c] w (AirRep w) := by
  have HX := Lib.hid hX
  clear hX
  go_enter Tryz.func57, Tryz.ntmps57
  go_wp2_with (at_builtin; go_must (refine wpList_appendStrs (news := airStrs) (ss := []) (OwnStrs.nil_ w w.heap.size) (Nat.le_refl _) (by decide) rfl (.const (.slice none 0 0)) (.tmp 8) 89 ⟨X, 0, none⟩ c rfl Tryz.underlying89 rfl rfl HX.out ?_); intro v2 w2 h1 h2 h3; (obtain ⟨g, c2, hv, hglow, hglt, hst⟩ := own_air4 h1); (subst hv); (have HS := Lib.hid hst); (have HB := Lib.hid ((Below.refl w.heap.size w).grown h2 (Nat.le_refl _) fun q e => by cases e)); clear h1 h2 h3 hst)
  go_ret
  exact airrep_fin hglow hglt HS.out HB.out
end Go.Proofs.YtnpgnohlcphfnaaGreatDoor
