/- SegmentPrefixes: two rows of the same postings are the same to the reference; rows in memory. -/
import Derived.Test.YtfinpehbpcckaaaGreatDoorFindsP
import Derived.Test.YtfinpehbpcckaaaGreatDoorM19
namespace Go.Proofs.YtfinpehbpcckaaaGreatDoor
open Go.RowKit
set_option linter.unusedVariables false

set_option maxRecDepth 100000 in
set_option maxHeartbeats 2000000 in
theorem posts_eq (A A2 : Option Addr) (n c m d : Nat) (a : List Post) (w : World) (ha : Posts w w.heap.size A n a) (hb : Posts w w.heap.size A2 m a) (hl : a.length ≤ 1000000) (hpa : ∀ p, p ∈ a → p.places.length ≤ 1000000) :
    Calls Tryz.prog 22 #[.slice A n c, .slice A2 m d] w fun e w' => e = .returned (.bool true) ∧ Below w.heap.size w w' := by
  obtain rfl : n = a.length := ha.1
  obtain rfl : m = a.length := hb.1
  obtain ⟨n, hn⟩ : ∃ n, a.length = n := ⟨_, rfl⟩
  rw [hn] at ha hb ⊢
  have HN := Lib.hid hn
  have hn9 : n ≤ 1000000 := by rw [← hn]; exact hl
  have HA := Lib.hid ha
  have HB := Lib.hid hb
  have HPA := Lib.hid hpa
  clear ha hb hpa hl hn
  have hd : ((n : Int) != (n : Int)) = false := by simp
  go_enter Tryz.func22, Tryz.ntmps22
  go_wp2
  go_loopw [5] (fun i wr => ∃ k : Nat, k ≤ n ∧ i = .int .i64 (k : Int) ∧ Hid (Below w.heap.size w wr)) (fun i _ => n - (intOf i).toNat)
  case atStart => exact ⟨0, Nat.zero_le _, rfl, Below.refl _ _⟩
  case round =>
    obtain ⟨k, hk, rfl, HW⟩ := hrel
    have hsz := HW.out.size
    by_cases hlt : k < n
    · have hk2 : (k : Int) < n := by omega
      have hkl : k < a.length := by rw [HN.out]; exact hlt
      obtain ⟨ad, X, x, xc, rfl, h1, c0, c1, -, -, -, hx⟩ := (HA.out.below HW.out).2 k hkl
      obtain ⟨bd, Y, y, yc, rfl, h2, d0, d1, -, -, -, hy⟩ := (HB.out.below HW.out).2 k hkl
      have hpl := HPA.out _ (List.getElem_mem hkl)
      obtain ⟨p, hp⟩ : ∃ p, a[k]'hkl = p := ⟨_, rfl⟩
      rw [hp] at c0 d0 hx hy hpl
      obtain ⟨dd, pl⟩ := p
      dsimp only at c0 d0 hx hy hpl
      clear hp hkl
      have hx9 : x ≤ 1000000 := by rw [← hx.len]; exact hpl
      have hdd : (dd != dd) = false := by simp
      have HX := Lib.hid (hx.more hsz)
      have HY := Lib.hid (hy.more hsz)
      clear hx hy hpl hk hlt hsz
      go_wp2
      (refine wp_region_tail 22 (by kernel_rfl) (by kernel_rfl) ?_; simp only [List.take_succ_cons, List.take_zero, List.drop_succ_cons, List.drop_zero]; repeat still_step)
      refine wpStill_nil ?_
      go_wp2_with fail
      refine (same_ints X Y x y xc yc pl pl wr.drew HX.out HY.out (by omega)).mono ?_
      rintro e w5 ⟨rfl, q5, rfl⟩
      rw [decide_eq_true (rfl : pl = pl)]
      go_wp2
      go_roundw
      case rel => exact ⟨k + 1, by omega, by go_num, Below.drewN HW.out _⟩
      case measure => simp [intOf] <;> omega
    · obtain rfl : k = n := by omega
      go_wp2
      go_ret
      exact ⟨rfl, HW.out⟩
/-- What a union or a look-up hands back. -/
theorem back_form {w w' : World} {l : List Post} {e : Ending} (h : PostsBack w l e w') :
    ∃ A n c, e = .returned (.slice A n c) ∧ n ≤ c ∧ c ≤ maxLen ∧ Posts w' w'.heap.size A n l ∧ Below w.heap.size w w' := by
  obtain ⟨v, ps, rfl, hown, hps, hb⟩ := h
  obtain ⟨A, c, rfl, h1, h2, h3⟩ := hown.posts
  rw [hps] at h3
  exact ⟨A, ps.length, c, rfl, h1, h2, h3, hb⟩
/-- Postings in memory, as a value. -/
def PV (w : World) (v : Value) (l : List Post) : Prop := ∃ A n c, v = .slice A n c ∧ n ≤ c ∧ c ≤ maxLen ∧ Posts w w.heap.size A n l
theorem PV.nil_ (w : World) : PV w (.slice none 0 0) [] := ⟨none, 0, 0, rfl, Nat.le_refl _, by simp, Posts.nil_⟩
theorem PV.below {w w' : World} {v : Value} {l : List Post} (h : PV w v l) (hb : Below w.heap.size w w') : PV w' v l := by
  obtain ⟨A, n, c, h1, h2, h3, h4⟩ := h
  exact ⟨A, n, c, h1, h2, h3, (h4.below hb).more hb.size⟩
theorem or_nice {U : List Ent} (hU : EFew U) (A A2 : Option Addr) (n m c d : Nat) (a b : List Post) (w : World) (ha : Posts w w.heap.size A n a) (hb : Posts w w.heap.size A2 m b) (hn : n ≤ c) (hc : c ≤ maxLen) (hm : m ≤ d) (hd : d ≤ maxLen) (h1 : Nice U a) (h2 : Nice U b) :
    Calls Tryz.prog 30 #[.slice A n c, .slice A2 m d] w (PostsBack w (orP a b)) :=
  or_any A A2 n m c d a b w ha hb hn hc hm hd h1.fine h2.fine (by have := h1.len hU; have := h2.len hU; omega) (fun p hp => by have := h1.places p hp; omega) (fun p hp => by have := h2.places p hp; omega)
theorem eq_nice {U : List Ent} (hU : EFew U) (A A2 : Option Addr) (n c m d : Nat) (a : List Post) (w : World) (ha : Posts w w.heap.size A n a) (hb : Posts w w.heap.size A2 m a) (h : Nice U a) :
    Calls Tryz.prog 22 #[.slice A n c, .slice A2 m d] w fun e w' => e = .returned (.bool true) ∧ Below w.heap.size w w' :=
  posts_eq A A2 n c m d a w ha hb (by have := h.len hU; omega) (fun p hp => by have := h.places p hp; omega)
theorem upTo_succ (q : Int → List Post) (n : Nat) : upTo q (n + 1) = orP (upTo q n) (q ((n : Int) + 1)) := rfl
theorem ofL_take {s : Seg} {f : Int} {pre : List UInt8} {k : Nat} (hk : k < s.terms.length) : ofL s f pre (s.terms.take (k + 1)) = if (ti s.terms k).field = f ∧ pre <+: (ti s.terms k).word then orP (ofL s f pre (s.terms.take k)) (lookP s f (ti s.terms k).word) else ofL s f pre (s.terms.take k) := by
  rw [List.take_succ_eq_append_getElem hk, ofL_snoc, ti_get hk]
end Go.Proofs.YtfinpehbpcckaaaGreatDoor
