/- Contract of top: the root, with the path halved. -/
import Derived.Test.YtlobiebmaheflaaSet
namespace Go.Proofs.Ytlobiebmaheflaa
open Go.RowKit
set_option linter.unusedVariables false

def blockOf : Value → Nat | .pointer (some a) => a.block | _ => 0

/-- What top leaves: another 'up' with the same roots. -/
def TopPost (w : World) (tag : Nat → Tag) (hd N T : Nat) (nm : Int → Option Nat) (live ok : Nat → Prop) (num : Nat → Int) (tm : Nat → List Tie) (up root dep : Nat → Nat) (grp : Nat → List Nat) (tl : Tie → List Nat) (c x : Nat) (e : Ending) (w' : World) : Prop :=
  e = .returned (.pointer (some ⟨root x, 0, none⟩)) ∧ ∃ up', Mem w' tag hd N T nm live ok num tm up' grp tl c ∧ Forest live up' root dep grp ∧ (∀ y, live y → (up' y = y ↔ up y = y)) ∧ Off (Mut tag) w w'
def TopRel (w : World) (tag : Nat → Tag) (hd N T : Nat) (nm : Int → Option Nat) (live ok : Nat → Prop) (num : Nat → Int) (tm : Nat → List Tie) (up root dep : Nat → Nat) (grp : Nat → List Nat) (tl : Tie → List Nat) (c x y : Nat) (up' : Nat → Nat) (wr : World) : Prop :=
  live y ∧ root y = root x ∧ Mem wr tag hd N T nm live ok num tm up' grp tl c ∧ Forest live up' root dep grp ∧ (∀ y, live y → (up' y = y ↔ up y = y)) ∧ Off (Mut tag) w wr

theorem halve_fix {live : Nat → Prop} {up root dep : Nat → Nat} {grp : Nat → List Nat} (h : Forest live up root dep grp) {x : Nat} (hx : live x) {y : Nat} (hy : live y) : upd up x (up (up x)) y = y ↔ up y = y := by
  by_cases e : y = x
  · subst e
    rw [upd_same]
    constructor
    · intro e
      by_cases h3 : up y = y
      · exact h3
      · exfalso
        have d1 := h.dec y hy h3
        by_cases h4 : up (up y) = up y
        · rw [h4] at e; exact h3 e
        · have d2 := h.dec (up y) (h.upL y hy) h4
          rw [e] at d2; omega
    · intro e; rw [e, e]
  · rw [upd_other _ _ e]

section
variable {tag : Nat → Tag} {hd N T : Nat} {nm : Int → Option Nat} {live ok : Nat → Prop} {num : Nat → Int} {tm : Nat → List Tie} {up root dep : Nat → Nat} {grp : Nat → List Nat} {tl : Tie → List Nat} {c : Nat}
set_option maxRecDepth 100000 in
set_option maxHeartbeats 400000 in
theorem top_any (x : Nat) (w : World) (hM : Mem w tag hd N T nm live ok num tm up grp tl c) (hF : Forest live up root dep grp) (hx : live x) :
    Calls Try.prog 29 #[.pointer (some ⟨x, 0, none⟩)] w (TopPost w tag hd N T nm live ok num tm up root dep grp tl c x) := by
  have hR : TopRel w tag hd N T nm live ok num tm up root dep grp tl c x x up w := ⟨hx, rfl, hM, hF, fun _ _ => Iff.rfl, Off.refl _ _⟩
  have HX := Lib.hid hx
  clear hM hF hx
  go_enter Try.func29, Try.ntmps29
  go_wp2
  go_loopw [0] (fun n wr => ∃ (y : Nat) (up' : Nat → Nat), n = .pointer (some ⟨y, 0, none⟩) ∧ TopRel w tag hd N T nm live ok num tm up root dep grp tl c x y up' wr) (fun n _ => dep (blockOf n))
  case atStart => exact ⟨x, up, rfl, hR⟩
  case round =>
    clear hR
    obtain ⟨y, up', rfl, hR⟩ := hrel
    have hR' := hR
    obtain ⟨hy, hyx, hm, hf, hiff, hoff⟩ := hR'
    obtain ⟨tv, gv, -, -, c2, -, fr, -, -⟩ := hm.cells hy
    obtain ⟨z, hz⟩ : ∃ z, up' y = z := ⟨_, rfl⟩
    have hzl : live z := hz ▸ hf.upL y hy
    obtain ⟨tv', gv', -, -, c2', -, -, -, -⟩ := hm.cells hzl
    obtain ⟨z2, hz2⟩ : ∃ z2, up' z = z2 := ⟨_, rfl⟩
    rw [hz] at c2
    rw [hz2] at c2'
    unfold ptr at c2 c2'
    have fr2 := fr 2
    have HZ := Lib.hid hz
    have HZ2 := Lib.hid hz2
    have HR := Lib.hid hR
    have HY := Lib.hid hy
    by_cases e : z = y
    · subst e
      have hb := (ptr_same wr z).1
      clear fr hR hm hf hiff hyx hoff hz hz2 hy hzl c2'
      go_wp2
      go_ret
      have hroot := HR.out.2.2.2.1.fix _ HR.out.1 HZ.out
      exact ⟨by rw [← HR.out.2.1, hroot]; rfl, up', HR.out.2.2.1, HR.out.2.2.2.1, HR.out.2.2.2.2.1, HR.out.2.2.2.2.2⟩
    · have hb := (hm.neq hzl hy e).1
      have HE := Lib.hid e
      clear fr hR hm hf hiff hyx hoff hz hz2 hy hzl e
      go_wp2
      go_roundw
      case rel =>
        obtain ⟨h1, h2, h3, h4, h5, h6⟩ := HR.out
        have h7 := h3.setUp h1 z2
        have h8 := h4.halve h1
        rw [HZ.out, HZ2.out] at h8
        have hz2l : live z2 := by rw [← HZ2.out, ← HZ.out]; exact h4.upL _ (h4.upL _ h1)
        refine ⟨z2, upd up' y z2, rfl, hz2l, ?_, h7, h8, fun u hu => ?_, h6.setCell (.inl ?_) _⟩
        · rw [← h2, ← HZ2.out, ← HZ.out, h4.upR _ (h4.upL _ h1), h4.upR _ h1]
        · have := halve_fix h4 h1 hu
          rw [HZ.out, HZ2.out] at this
          exact this.trans (h5 u hu)
        · show tag y ≠ tOut ∧ (tag y).kind ≠ 7
          rw [(h3.node_tag h1).1]; simp [tNode, tOut]
      case measure =>
        obtain ⟨h1, h2, h3, h4, h5, h6⟩ := HR.out
        have d1 := h4.dec y h1 (by rw [HZ.out]; exact HE.out)
        rw [HZ.out] at d1
        have hzl : live z := HZ.out ▸ h4.upL y h1
        simp only [blockOf]
        by_cases e2 : z2 = z
        · rw [e2]; exact d1
        · have d2 := h4.dec z hzl (by rw [HZ2.out]; exact e2)
          rw [HZ2.out] at d2; omega
end
end Go.Proofs.Ytlobiebmaheflaa
