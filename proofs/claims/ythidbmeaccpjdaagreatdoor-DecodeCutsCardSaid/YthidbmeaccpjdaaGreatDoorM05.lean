/- The reference of layer 10: the contract of front (printed by gen_rfront.py). The reference of layer 10: the contracts of Scan and Bare. The reference of layer 10: the contract of Value. -/
import Derived.Handy
import Derived.Test.YthidbmeaccpjdaaGreatDoorM04
import Derived.Test.YthidbmeaccpjdaaGreatDoorM03
section
namespace Go.Proofs.YthidbmeaccpjdaaGreatDoor
open Go.RowKit
set_option linter.unusedVariables false
def FrontPost (w : World) (l : List UInt8) (e : Ending) (w' : World) : Prop := e = .returned (.agg #[.int .i64 (frontP l).1, .string (ba (l.take (frontP l).2))]) ∧ Below w.heap.size w w'
theorem front_fin {w w' : World} {l : List UInt8} {s : ByteArray} {k : Int} {m : Nat} {t : ByteArray} (hs : ba l = s) (ht : t = s.extract 0 m) (hf : frontP l = (k, m)) (hb : Below w.heap.size w w') : FrontPost w l (.returned (.agg #[.int .i64 k, .string t])) w' := by
 subst hs
 subst ht
 unfold FrontPost
 rw [hf]
 exact ⟨by rw [ba_cut]; rfl, hb⟩
theorem endV_le {z c : UInt8} {r : List UInt8} : endV z (c :: r) ≤ r.length + 1 := by
 unfold endV
 rw [show (c :: r).drop 1 = r from rfl]
 split
 ·rename_i m hm
  have := closeP_le _ _ _ _ hm
  omega
 ·omega
theorem front_opened {c z : UInt8} {r : List UInt8} {k : Int} (hb : blankB c = false) (ho : opens c = some (k, z)) :
  frontP (c :: r) = if endV z (c :: r) = 0 then (7, r.length + 1) else (k, endV z (c :: r)) := by
 rw [frontP_cons, if_neg (by rw [hb]; decide), ho]
 unfold endV
 rw [show (c :: r).drop 1 = r from rfl]
 show (match closeP z 1 r with | some n => (k, n + 1) | none => (7, r.length + 1)) = _
 cases closeP z 1 r <;> simp
set_option maxRecDepth 100000 in
set_option maxHeartbeats 4000000 in
theorem rfront_blank (c : UInt8) (r : List UInt8) (w : World) (hl : (c :: r).length ≤ 1000000000) (hc : blankB c = true) :
  Calls Tryz.prog 256 #[.string (ba (c :: r))] w (FrontPost w (c :: r)) := by
 have HBC := Lib.hid hc
 obtain ⟨l, hll⟩ : ∃ l, (c :: r : List UInt8) = l := ⟨_, rfl⟩
 have h0 : ∀ h : 0 < l.length, l[0] = c := fun h => by subst hll; rfl
 have hne : 0 < l.length := by rw [← hll]; simp
 have hnr : l.length = r.length + 1 := by rw [← hll]; simp
 have HNR := Lib.hid hnr
 have HLL := Lib.hid hll
 have H00 := Lib.hid (h0 hne)
 clear h0 hnr
 have HFV := Lib.hid (show ∀ m, (l.takeWhile blankB).length = m → frontP l = (6, m) from fun m hm => by
  rw [← HLL.out, frontP_cons, if_pos hc, HLL.out, hm])
 clear hc
 rw [hll] at hl ⊢
 clear hll
 obtain ⟨n, hn⟩ : ∃ n, l.length = n := ⟨_, rfl⟩
 have HL := Lib.hid hn
 obtain ⟨s, hs⟩ : ∃ s, ba l = s := ⟨_, rfl⟩
 have HS := Lib.hid hs
 have HZ := Lib.hid (show s.size = n by rw [← hs, ba_size, hn])
 have hsz : (s.size : Int) = n := by rw [HZ.out]
 rw [hs]
 rw [hn] at hl
 clear hs hn
 have hpos : 0 < n := by rw [← HL.out]; exact hne
 go_enter Tryz.func256, Tryz.ntmps256
 go_wp2
 go_loop [3] (fun i => ∃ k : Nat, k ≤ n ∧ i = .int .i64 (k : Int) ∧ Hid (∀ j (hj : j < l.length), j < k → blankB l[j] = true)) (fun i => n - (intOf i).toNat)
 case atStart => exact ⟨0, Nat.zero_le _, rfl, Lib.hid fun j _ h => absurd h (by omega)⟩
 case round =>
  obtain ⟨k, hk, rfl, HA⟩ := hrel
  by_cases hlt : k < n
  ·have hk2 : (k : Int) < (n : Int) := by omega
   have hk0 : (0 : Int) ≤ (k : Int) := by omega
   have hks : k < s.size := by rw [HZ.out]; omega
   have hkl : k < l.length := by rw [HL.out]; omega
   have hget : s[k] = l[k] := by
    have h := HS.out
    subst h
    rfl
   have HST := Lib.hid (tw_stop (p := blankB) hkl HA.out)
   have HNX := Lib.hid (show blankB l[k] = true → ∀ j (hj : j < l.length), j < k + 1 → blankB l[j] = true from fun h j hj hjk => by
    rcases Nat.lt_or_ge j k with h1 | h1
    ·exact HA.out j hj h1
    ·have : j = k := by omega
     subst this; exact h)
   have HZ0 := Lib.hid (show k = 0 → l[k] = c from fun h => by subst h; exact H00.out)
   obtain ⟨d, hc⟩ : ∃ c, l[k] = c := ⟨_, rfl⟩
   rw [hc] at hget HST HNX HZ0
   obtain ⟨x, hx⟩ : ∃ x : Int, (d.toNat : Int) = x := ⟨_, rfl⟩
   have hgi : ((s[k]).toNat : Int) = x := by rw [hget]; exact hx
   have HX := Lib.hid hx
   have hx0 : 0 ≤ x := by omega
   have hx1 : x ≤ 255 := by have := d.toNat_lt; omega
   clear hc hkl hget hx
   have hblk := rblank_any d
   rw [HX.out] at hblk
   obtain ⟨b, hb⟩ : ∃ b, blankB d = b := ⟨_, rfl⟩
   rw [hb] at hblk HST HNX
   have HBK := Lib.hid hblk
   have HBB := Lib.hid hb
   clear hblk hb
   cases b
   ·have HF := Lib.hid (HST.out rfl)
    have hkp : 0 < k := by
     rcases Nat.eq_zero_or_pos k with h | h
     ·have h1 := HBB.out
      rw [HZ0.out h, HBC.out] at h1
      cases h1
     ·exact h
    have hkp2 : decide (0 < (k : Int)) = true := decide_eq_true (by omega)
    go_wp2_with fail
    refine (HBK.out _).mono ?_
    rintro e w' ⟨rfl, rfl⟩
    go_wp2
    go_returns
    exact front_fin HS.out rfl (HFV.out _ HF.out) ((Below.refl _ _).alloc (Nat.le_refl _) _)
   ·have HXX := Lib.hid (HNX.out rfl)
    go_wp2_with fail
    refine (HBK.out _).mono ?_
    rintro e w' ⟨rfl, rfl⟩
    go_wp2
    go_round
    case rel => exact ⟨k + 1, by omega, by go_num, HXX⟩
    case measure => simp [intOf] <;> omega
  ·obtain rfl : k = n := by omega
   have HF := Lib.hid (show (l.takeWhile blankB).length = k by rw [tw_all fun j hj => HA.out j hj (by rw [HL.out] at hj; exact hj), HL.out])
   have hkp : 0 < k := hpos
   have hkp2 : decide (0 < (k : Int)) = true := decide_eq_true (by omega)
   clear hpos
   go_wp2
   go_returns
   exact front_fin HS.out rfl (HFV.out _ HF.out) ((Below.refl _ _).alloc (Nat.le_refl _) _)
set_option maxRecDepth 100000 in
set_option maxHeartbeats 4000000 in
theorem rfront_40 (r : List UInt8) (w : World) (hl : (40 :: r : List UInt8).length ≤ 1000000000) :
  Calls Tryz.prog 256 #[.string (ba (40 :: r))] w (FrontPost w (40 :: r)) := by
 have HEND := Lib.hid (fun W => rend_40 r W hl)
 have HFO := Lib.hid (front_opened (r := r) (show blankB 40 = false by decide) (show opens 40 = some (3, 41) by decide))
 have HLE := Lib.hid (endV_le (z := 41) (c := 40) (r := r))
 have hblk := rblank_any 40
 rw [show blankB 40 = false by decide] at hblk
 obtain ⟨l, hll⟩ : ∃ l, (40 :: r : List UInt8) = l := ⟨_, rfl⟩
 have h0 : ∀ h : 0 < l.length, l[0] = 40 := fun h => by subst hll; rfl
 have hne : 0 < l.length := by rw [← hll]; simp
 have HNR := Lib.hid (show l.length = r.length + 1 by rw [← hll]; simp)
 have H00 := Lib.hid (h0 hne)
 rw [hll] at hl HEND HFO HLE ⊢
 clear h0 hll
 obtain ⟨n, hn⟩ : ∃ n, l.length = n := ⟨_, rfl⟩
 have HL := Lib.hid hn
 obtain ⟨s, hs⟩ : ∃ s, ba l = s := ⟨_, rfl⟩
 have HS := Lib.hid hs
 have HZ := Lib.hid (show s.size = n by rw [← hs, ba_size, hn])
 have hsz : (s.size : Int) = n := by rw [HZ.out]
 rw [hs]
 rw [hn] at hl
 clear hs hn
 rw [HS.out] at HEND
 have hp0n : 0 < n := by rw [← HL.out]; exact hne
 have hp0 : 0 < s.size := by rw [HZ.out]; exact hp0n
 have hg0 : ∀ h : 0 < s.size, ((s[0]).toNat : Int) = 40 := fun h => by
  have h2 := HS.out
  subst h2
  show ((l[0]'hne).toNat : Int) = 40
  rw [H00.out]
  rfl
 have HBK := Lib.hid hblk
 clear hblk H00 hne
 obtain ⟨v, hv⟩ : ∃ v, endV 41 l = v := ⟨_, rfl⟩
 rw [hv] at HFO HLE
 simp only [hv] at HEND
 clear hv
 have hvn : v ≤ n := by have := HLE.out; have := HNR.out; have := HL.out; omega
 have hvi : (v : Int) ≤ (s.size : Int) := by omega
 have hv0 : (0 : Int) ≤ (v : Int) := by omega
 by_cases ev : v = 0
 ·have gv : ((v : Int) == 0) = true := by simp; omega
  have HFV := Lib.hid (show frontP l = (7, n) by rw [HFO.out, if_pos ev, ← HNR.out, HL.out])
  have HEX := Lib.hid (show s = s.extract 0 n by rw [← HZ.out]; simp)
  clear ev
  go_enter Tryz.func256, Tryz.ntmps256
  go_wp2
  go_loop [3] (fun i => i = .int .i64 ((0 : Nat) : Int)) (fun _ => 0)
  case atStart => rfl
  case round =>
   subst hrel
   have hp0i : ((0 : Nat) : Int) < (n : Int) := by omega
   go_wp2_with fail
   refine (HBK.out _).mono ?_
   rintro e w' ⟨rfl, rfl⟩
   clear HBK
   go_wp2_with fail
   refine (HEND.out _).mono ?_
   rintro e w' ⟨rfl, rfl⟩
   go_wp2
   go_returns
   exact front_fin HS.out HEX.out HFV.out ((Below.refl _ _).alloc (Nat.le_refl _) _)
 ·have gv : ((v : Int) == 0) = false := by simp; omega
  have HFV := Lib.hid (show frontP l = (3, v) by rw [HFO.out, if_neg ev])
  clear ev
  go_enter Tryz.func256, Tryz.ntmps256
  go_wp2
  go_loop [3] (fun i => i = .int .i64 ((0 : Nat) : Int)) (fun _ => 0)
  case atStart => rfl
  case round =>
   subst hrel
   have hp0i : ((0 : Nat) : Int) < (n : Int) := by omega
   go_wp2_with fail
   refine (HBK.out _).mono ?_
   rintro e w' ⟨rfl, rfl⟩
   clear HBK
   go_wp2_with fail
   refine (HEND.out _).mono ?_
   rintro e w' ⟨rfl, rfl⟩
   go_wp2
   go_returns
   exact front_fin HS.out rfl HFV.out ((Below.refl _ _).alloc (Nat.le_refl _) _)
set_option maxRecDepth 100000 in
set_option maxHeartbeats 4000000 in
theorem rfront_34 (r : List UInt8) (w : World) (hl : (34 :: r : List UInt8).length ≤ 1000000000) :
  Calls Tryz.prog 256 #[.string (ba (34 :: r))] w (FrontPost w (34 :: r)) := by
 have HEND := Lib.hid (fun W => rend_34 r W hl)
 have HFO := Lib.hid (front_opened (r := r) (show blankB 34 = false by decide) (show opens 34 = some (2, 34) by decide))
 have HLE := Lib.hid (endV_le (z := 34) (c := 34) (r := r))
 have hblk := rblank_any 34
 rw [show blankB 34 = false by decide] at hblk
 obtain ⟨l, hll⟩ : ∃ l, (34 :: r : List UInt8) = l := ⟨_, rfl⟩
 have h0 : ∀ h : 0 < l.length, l[0] = 34 := fun h => by subst hll; rfl
 have hne : 0 < l.length := by rw [← hll]; simp
 have HNR := Lib.hid (show l.length = r.length + 1 by rw [← hll]; simp)
 have H00 := Lib.hid (h0 hne)
 rw [hll] at hl HEND HFO HLE ⊢
 clear h0 hll
 obtain ⟨n, hn⟩ : ∃ n, l.length = n := ⟨_, rfl⟩
 have HL := Lib.hid hn
 obtain ⟨s, hs⟩ : ∃ s, ba l = s := ⟨_, rfl⟩
 have HS := Lib.hid hs
 have HZ := Lib.hid (show s.size = n by rw [← hs, ba_size, hn])
 have hsz : (s.size : Int) = n := by rw [HZ.out]
 rw [hs]
 rw [hn] at hl
 clear hs hn
 rw [HS.out] at HEND
 have hp0n : 0 < n := by rw [← HL.out]; exact hne
 have hp0 : 0 < s.size := by rw [HZ.out]; exact hp0n
 have hg0 : ∀ h : 0 < s.size, ((s[0]).toNat : Int) = 34 := fun h => by
  have h2 := HS.out
  subst h2
  show ((l[0]'hne).toNat : Int) = 34
  rw [H00.out]
  rfl
 have HBK := Lib.hid hblk
 clear hblk H00 hne
 obtain ⟨v, hv⟩ : ∃ v, endV 34 l = v := ⟨_, rfl⟩
 rw [hv] at HFO HLE
 simp only [hv] at HEND
 clear hv
 have hvn : v ≤ n := by have := HLE.out; have := HNR.out; have := HL.out; omega
 have hvi : (v : Int) ≤ (s.size : Int) := by omega
 have hv0 : (0 : Int) ≤ (v : Int) := by omega
 by_cases ev : v = 0
 ·have gv : ((v : Int) == 0) = true := by simp; omega
  have HFV := Lib.hid (show frontP l = (7, n) by rw [HFO.out, if_pos ev, ← HNR.out, HL.out])
  have HEX := Lib.hid (show s = s.extract 0 n by rw [← HZ.out]; simp)
  clear ev
  go_enter Tryz.func256, Tryz.ntmps256
  go_wp2
  go_loop [3] (fun i => i = .int .i64 ((0 : Nat) : Int)) (fun _ => 0)
  case atStart => rfl
  case round =>
   subst hrel
   have hp0i : ((0 : Nat) : Int) < (n : Int) := by omega
   go_wp2_with fail
   refine (HBK.out _).mono ?_
   rintro e w' ⟨rfl, rfl⟩
   clear HBK
   go_wp2_with fail
   refine (HEND.out _).mono ?_
   rintro e w' ⟨rfl, rfl⟩
   go_wp2
   go_returns
   exact front_fin HS.out HEX.out HFV.out ((Below.refl _ _).alloc (Nat.le_refl _) _)
 ·have gv : ((v : Int) == 0) = false := by simp; omega
  have HFV := Lib.hid (show frontP l = (2, v) by rw [HFO.out, if_neg ev])
  clear ev
  go_enter Tryz.func256, Tryz.ntmps256
  go_wp2
  go_loop [3] (fun i => i = .int .i64 ((0 : Nat) : Int)) (fun _ => 0)
  case atStart => rfl
  case round =>
   subst hrel
   have hp0i : ((0 : Nat) : Int) < (n : Int) := by omega
   go_wp2_with fail
   refine (HBK.out _).mono ?_
   rintro e w' ⟨rfl, rfl⟩
   clear HBK
   go_wp2_with fail
   refine (HEND.out _).mono ?_
   rintro e w' ⟨rfl, rfl⟩
   go_wp2
   go_returns
   exact front_fin HS.out rfl HFV.out ((Below.refl _ _).alloc (Nat.le_refl _) _)
set_option maxRecDepth 100000 in
set_option maxHeartbeats 4000000 in
theorem rfront_91 (r : List UInt8) (w : World) (hl : (91 :: r : List UInt8).length ≤ 1000000000) :
  Calls Tryz.prog 256 #[.string (ba (91 :: r))] w (FrontPost w (91 :: r)) := by
 have HEND := Lib.hid (fun W => rend_91 r W hl)
 have HFO := Lib.hid (front_opened (r := r) (show blankB 91 = false by decide) (show opens 91 = some (5, 93) by decide))
 have HLE := Lib.hid (endV_le (z := 93) (c := 91) (r := r))
 have hblk := rblank_any 91
 rw [show blankB 91 = false by decide] at hblk
 obtain ⟨l, hll⟩ : ∃ l, (91 :: r : List UInt8) = l := ⟨_, rfl⟩
 have h0 : ∀ h : 0 < l.length, l[0] = 91 := fun h => by subst hll; rfl
 have hne : 0 < l.length := by rw [← hll]; simp
 have HNR := Lib.hid (show l.length = r.length + 1 by rw [← hll]; simp)
 have H00 := Lib.hid (h0 hne)
 rw [hll] at hl HEND HFO HLE ⊢
 clear h0 hll
 obtain ⟨n, hn⟩ : ∃ n, l.length = n := ⟨_, rfl⟩
 have HL := Lib.hid hn
 obtain ⟨s, hs⟩ : ∃ s, ba l = s := ⟨_, rfl⟩
 have HS := Lib.hid hs
 have HZ := Lib.hid (show s.size = n by rw [← hs, ba_size, hn])
 have hsz : (s.size : Int) = n := by rw [HZ.out]
 rw [hs]
 rw [hn] at hl
 clear hs hn
 rw [HS.out] at HEND
 have hp0n : 0 < n := by rw [← HL.out]; exact hne
 have hp0 : 0 < s.size := by rw [HZ.out]; exact hp0n
 have hg0 : ∀ h : 0 < s.size, ((s[0]).toNat : Int) = 91 := fun h => by
  have h2 := HS.out
  subst h2
  show ((l[0]'hne).toNat : Int) = 91
  rw [H00.out]
  rfl
 have HBK := Lib.hid hblk
 clear hblk H00 hne
 obtain ⟨v, hv⟩ : ∃ v, endV 93 l = v := ⟨_, rfl⟩
 rw [hv] at HFO HLE
 simp only [hv] at HEND
 clear hv
 have hvn : v ≤ n := by have := HLE.out; have := HNR.out; have := HL.out; omega
 have hvi : (v : Int) ≤ (s.size : Int) := by omega
 have hv0 : (0 : Int) ≤ (v : Int) := by omega
 by_cases ev : v = 0
 ·have gv : ((v : Int) == 0) = true := by simp; omega
  have HFV := Lib.hid (show frontP l = (7, n) by rw [HFO.out, if_pos ev, ← HNR.out, HL.out])
  have HEX := Lib.hid (show s = s.extract 0 n by rw [← HZ.out]; simp)
  clear ev
  go_enter Tryz.func256, Tryz.ntmps256
  go_wp2
  go_loop [3] (fun i => i = .int .i64 ((0 : Nat) : Int)) (fun _ => 0)
  case atStart => rfl
  case round =>
   subst hrel
   have hp0i : ((0 : Nat) : Int) < (n : Int) := by omega
   go_wp2_with fail
   refine (HBK.out _).mono ?_
   rintro e w' ⟨rfl, rfl⟩
   clear HBK
   go_wp2_with fail
   refine (HEND.out _).mono ?_
   rintro e w' ⟨rfl, rfl⟩
   go_wp2
   go_returns
   exact front_fin HS.out HEX.out HFV.out ((Below.refl _ _).alloc (Nat.le_refl _) _)
 ·have gv : ((v : Int) == 0) = false := by simp; omega
  have HFV := Lib.hid (show frontP l = (5, v) by rw [HFO.out, if_neg ev])
  clear ev
  go_enter Tryz.func256, Tryz.ntmps256
  go_wp2
  go_loop [3] (fun i => i = .int .i64 ((0 : Nat) : Int)) (fun _ => 0)
  case atStart => rfl
  case round =>
   subst hrel
   have hp0i : ((0 : Nat) : Int) < (n : Int) := by omega
   go_wp2_with fail
   refine (HBK.out _).mono ?_
   rintro e w' ⟨rfl, rfl⟩
   clear HBK
   go_wp2_with fail
   refine (HEND.out _).mono ?_
   rintro e w' ⟨rfl, rfl⟩
   go_wp2
   go_returns
   exact front_fin HS.out rfl HFV.out ((Below.refl _ _).alloc (Nat.le_refl _) _)
set_option maxRecDepth 100000 in
set_option maxHeartbeats 4000000 in
theorem rfront_special (c : UInt8) (r : List UInt8) (w : World) (hl : (c :: r).length ≤ 1000000000) (hc : blankB c = false) (ho : opens c = none) (hsp : specials.contains c = true) :
  Calls Tryz.prog 256 #[.string (ba (c :: r))] w (FrontPost w (c :: r)) := by
 have hno : ¬ c = 40 ∧ ¬ c = 34 ∧ ¬ c = 91 := by
  unfold opens at ho
  refine ⟨fun h => ?_, fun h => ?_, fun h => ?_⟩ <;> subst h <;> simp at ho
 have HNO := Lib.hid hno
 have hspc := rspecial_any c
 rw [hsp] at hspc
 have HFV0 := Lib.hid (show frontP (c :: r) = (4, 1) by rw [frontP_cons, if_neg (by rw [hc]; decide), ho]; rw [hsp]; rfl)
 clear ho hno
 have HSPC := Lib.hid hsp
 clear hsp
 have HBC := Lib.hid hc
 obtain ⟨l, hll⟩ : ∃ l, (c :: r : List UInt8) = l := ⟨_, rfl⟩
 have h0 : ∀ h : 0 < l.length, l[0] = c := fun h => by subst hll; rfl
 have hne : 0 < l.length := by rw [← hll]; simp
 have hnr : l.length = r.length + 1 := by rw [← hll]; simp
 have HNR := Lib.hid hnr
 have HLL := Lib.hid hll
 have H00 := Lib.hid (h0 hne)
 clear h0 hnr
 clear hc
 have HLLX := Lib.hid hll
 rw [hll] at hl ⊢
 clear hll
 obtain ⟨n, hn⟩ : ∃ n, l.length = n := ⟨_, rfl⟩
 have HL := Lib.hid hn
 obtain ⟨s, hs⟩ : ∃ s, ba l = s := ⟨_, rfl⟩
 have HS := Lib.hid hs
 have HZ := Lib.hid (show s.size = n by rw [← hs, ba_size, hn])
 have hsz : (s.size : Int) = n := by rw [HZ.out]
 rw [hs]
 rw [hn] at hl
 clear hs hn
 have hp0n : 0 < n := by rw [← HL.out]; exact hne
 have hp0 : 0 < s.size := by rw [HZ.out]; exact hp0n
 have hblk := rblank_any c
 rw [HBC.out] at hblk
 obtain ⟨x, hx⟩ : ∃ x : Int, (c.toNat : Int) = x := ⟨_, rfl⟩
 have HX := Lib.hid hx
 have hg0 : ∀ h : 0 < s.size, ((s[0]).toNat : Int) = x := fun h => by
  have h2 := HS.out
  subst h2
  show ((l[0]'hne).toNat : Int) = x
  rw [H00.out]
  exact hx
 rw [hx] at hblk
 have HBK := Lib.hid hblk
 clear hx hblk H00 hne
 rw [HX.out] at hspc
 have HSP := Lib.hid hspc
 clear hspc
 have g40 : (x == 40) = false := by
  have h1 : ¬ x = 40 := fun h => HNO.out.1 (u8_int_eq.1 (by rw [HX.out]; exact h))
  simpa using h1
 have g34 : (x == 34) = false := by
  have h1 : ¬ x = 34 := fun h => HNO.out.2.1 (u8_int_eq.1 (by rw [HX.out]; exact h))
  simpa using h1
 have g91 : (x == 91) = false := by
  have h1 : ¬ x = 91 := fun h => HNO.out.2.2 (u8_int_eq.1 (by rw [HX.out]; exact h))
  simpa using h1
 rw [HLLX.out] at HFV0
 go_enter Tryz.func256, Tryz.ntmps256
 go_wp2
 go_loop [3] (fun i => i = .int .i64 ((0 : Nat) : Int)) (fun _ => 0)
 case atStart => rfl
 case round =>
  subst hrel
  have hp0i : ((0 : Nat) : Int) < (n : Int) := by omega
  go_wp2_with fail
  refine (HBK.out _).mono ?_
  rintro e w' ⟨rfl, rfl⟩
  clear HBK
  go_wp2_with fail
  refine (HSP.out _).mono ?_
  rintro e w' ⟨rfl, rfl⟩
  have hs1 : (1 : Int) ≤ (s.size : Int) := by omega
  go_wp2
  go_returns
  exact front_fin HS.out rfl HFV0.out ((Below.refl _ _).alloc (Nat.le_refl _) _)
set_option maxRecDepth 100000 in
set_option maxHeartbeats 4000000 in
theorem rfront_bad (c : UInt8) (r : List UInt8) (w : World) (hl : (c :: r).length ≤ 1000000000) (hc : blankB c = false) (ho : opens c = none) (hsp : specials.contains c = false) (hat : atomB c = false) :
  Calls Tryz.prog 256 #[.string (ba (c :: r))] w (FrontPost w (c :: r)) := by
 have hno : ¬ c = 40 ∧ ¬ c = 34 ∧ ¬ c = 91 := by
  unfold opens at ho
  refine ⟨fun h => ?_, fun h => ?_, fun h => ?_⟩ <;> subst h <;> simp at ho
 have HNO := Lib.hid hno
 have hspc := rspecial_any c
 rw [hsp] at hspc
 have HFV0 := Lib.hid (show frontP (c :: r) = (7, 1) by rw [frontP_cons, if_neg (by rw [hc]; decide), ho]; rw [hsp, hat]; rfl)
 clear ho hno
 have HSPC := Lib.hid hsp
 clear hsp
 have hatc := ratom_any c
 rw [hat] at hatc
 clear hat
 have HBC := Lib.hid hc
 obtain ⟨l, hll⟩ : ∃ l, (c :: r : List UInt8) = l := ⟨_, rfl⟩
 have h0 : ∀ h : 0 < l.length, l[0] = c := fun h => by subst hll; rfl
 have hne : 0 < l.length := by rw [← hll]; simp
 have hnr : l.length = r.length + 1 := by rw [← hll]; simp
 have HNR := Lib.hid hnr
 have HLL := Lib.hid hll
 have H00 := Lib.hid (h0 hne)
 clear h0 hnr
 clear hc
 have HLLX := Lib.hid hll
 rw [hll] at hl ⊢
 clear hll
 obtain ⟨n, hn⟩ : ∃ n, l.length = n := ⟨_, rfl⟩
 have HL := Lib.hid hn
 obtain ⟨s, hs⟩ : ∃ s, ba l = s := ⟨_, rfl⟩
 have HS := Lib.hid hs
 have HZ := Lib.hid (show s.size = n by rw [← hs, ba_size, hn])
 have hsz : (s.size : Int) = n := by rw [HZ.out]
 rw [hs]
 rw [hn] at hl
 clear hs hn
 have hp0n : 0 < n := by rw [← HL.out]; exact hne
 have hp0 : 0 < s.size := by rw [HZ.out]; exact hp0n
 have hblk := rblank_any c
 rw [HBC.out] at hblk
 obtain ⟨x, hx⟩ : ∃ x : Int, (c.toNat : Int) = x := ⟨_, rfl⟩
 have HX := Lib.hid hx
 have hg0 : ∀ h : 0 < s.size, ((s[0]).toNat : Int) = x := fun h => by
  have h2 := HS.out
  subst h2
  show ((l[0]'hne).toNat : Int) = x
  rw [H00.out]
  exact hx
 rw [hx] at hblk
 have HBK := Lib.hid hblk
 clear hx hblk H00 hne
 rw [HX.out] at hspc
 have HSP := Lib.hid hspc
 clear hspc
 have g40 : (x == 40) = false := by
  have h1 : ¬ x = 40 := fun h => HNO.out.1 (u8_int_eq.1 (by rw [HX.out]; exact h))
  simpa using h1
 have g34 : (x == 34) = false := by
  have h1 : ¬ x = 34 := fun h => HNO.out.2.1 (u8_int_eq.1 (by rw [HX.out]; exact h))
  simpa using h1
 have g91 : (x == 91) = false := by
  have h1 : ¬ x = 91 := fun h => HNO.out.2.2 (u8_int_eq.1 (by rw [HX.out]; exact h))
  simpa using h1
 rw [HLLX.out] at HFV0
 rw [HX.out] at hatc
 have HATC := Lib.hid hatc
 clear hatc
 go_enter Tryz.func256, Tryz.ntmps256
 go_wp2
 go_loop [3] (fun i => i = .int .i64 ((0 : Nat) : Int)) (fun _ => 0)
 case atStart => rfl
 case round =>
  subst hrel
  have hp0i : ((0 : Nat) : Int) < (n : Int) := by omega
  go_wp2_with fail
  refine (HBK.out _).mono ?_
  rintro e w' ⟨rfl, rfl⟩
  clear HBK
  go_wp2_with fail
  refine (HSP.out _).mono ?_
  rintro e w' ⟨rfl, rfl⟩
  have hs1 : (1 : Int) ≤ (s.size : Int) := by omega
  go_wp2
  go_loop [3] (fun i => i = .int .i64 ((0 : Nat) : Int)) (fun _ => 0)
  case atStart => rfl
  case round =>
   subst hrel
   go_wp2_with fail
   refine (HATC.out _).mono ?_
   rintro e w' ⟨rfl, rfl⟩
   go_wp2
   go_returns
   exact front_fin HS.out rfl HFV0.out ((Below.refl _ _).alloc (Nat.le_refl _) _)
set_option maxRecDepth 100000 in
set_option maxHeartbeats 4000000 in
theorem rfront_atom (c : UInt8) (r : List UInt8) (w : World) (hl : (c :: r).length ≤ 1000000000) (hc : blankB c = false) (ho : opens c = none) (hsp : specials.contains c = false) (hat : atomB c = true) :
  Calls Tryz.prog 256 #[.string (ba (c :: r))] w (FrontPost w (c :: r)) := by
 have hno : ¬ c = 40 ∧ ¬ c = 34 ∧ ¬ c = 91 := by
  unfold opens at ho
  refine ⟨fun h => ?_, fun h => ?_, fun h => ?_⟩ <;> subst h <;> simp at ho
 have HNO := Lib.hid hno
 have hspc := rspecial_any c
 rw [hsp] at hspc
 have HFV0 := Lib.hid (show frontP (c :: r) = (1, ((c :: r).takeWhile atomB).length) by rw [frontP_cons, if_neg (by rw [hc]; decide), ho]; rw [hsp, hat]; rfl)
 clear ho hno
 have HSPC := Lib.hid hsp
 clear hsp
 have HATT := Lib.hid hat
 clear hat
 have HBC := Lib.hid hc
 obtain ⟨l, hll⟩ : ∃ l, (c :: r : List UInt8) = l := ⟨_, rfl⟩
 have h0 : ∀ h : 0 < l.length, l[0] = c := fun h => by subst hll; rfl
 have hne : 0 < l.length := by rw [← hll]; simp
 have hnr : l.length = r.length + 1 := by rw [← hll]; simp
 have HNR := Lib.hid hnr
 have HLL := Lib.hid hll
 have H00 := Lib.hid (h0 hne)
 clear h0 hnr
 clear hc
 have HLLX := Lib.hid hll
 rw [hll] at hl ⊢
 clear hll
 obtain ⟨n, hn⟩ : ∃ n, l.length = n := ⟨_, rfl⟩
 have HL := Lib.hid hn
 obtain ⟨s, hs⟩ : ∃ s, ba l = s := ⟨_, rfl⟩
 have HS := Lib.hid hs
 have HZ := Lib.hid (show s.size = n by rw [← hs, ba_size, hn])
 have hsz : (s.size : Int) = n := by rw [HZ.out]
 rw [hs]
 rw [hn] at hl
 clear hs hn
 have hp0n : 0 < n := by rw [← HL.out]; exact hne
 have hp0 : 0 < s.size := by rw [HZ.out]; exact hp0n
 have hblk := rblank_any c
 rw [HBC.out] at hblk
 obtain ⟨x, hx⟩ : ∃ x : Int, (c.toNat : Int) = x := ⟨_, rfl⟩
 have HX := Lib.hid hx
 have hg0 : ∀ h : 0 < s.size, ((s[0]).toNat : Int) = x := fun h => by
  have h2 := HS.out
  subst h2
  show ((l[0]'hne).toNat : Int) = x
  rw [H00.out]
  exact hx
 rw [hx] at hblk
 have HBK := Lib.hid hblk
 clear hx hblk
 rw [HX.out] at hspc
 have HSP := Lib.hid hspc
 clear hspc
 have g40 : (x == 40) = false := by
  have h1 : ¬ x = 40 := fun h => HNO.out.1 (u8_int_eq.1 (by rw [HX.out]; exact h))
  simpa using h1
 have g34 : (x == 34) = false := by
  have h1 : ¬ x = 34 := fun h => HNO.out.2.1 (u8_int_eq.1 (by rw [HX.out]; exact h))
  simpa using h1
 have g91 : (x == 91) = false := by
  have h1 : ¬ x = 91 := fun h => HNO.out.2.2 (u8_int_eq.1 (by rw [HX.out]; exact h))
  simpa using h1
 rw [HLLX.out] at HFV0
 have HFV := Lib.hid (show ∀ m, (l.takeWhile atomB).length = m → frontP l = (1, m) from fun m hm => by rw [HFV0.out, hm])
 have hpos : 0 < n := hp0n
 go_enter Tryz.func256, Tryz.ntmps256
 go_wp2
 go_loop [3] (fun i => i = .int .i64 ((0 : Nat) : Int)) (fun _ => 0)
 case atStart => rfl
 case round =>
  subst hrel
  have hp0i : ((0 : Nat) : Int) < (n : Int) := by omega
  go_wp2_with fail
  refine (HBK.out _).mono ?_
  rintro e w' ⟨rfl, rfl⟩
  clear HBK
  go_wp2_with fail
  refine (HSP.out _).mono ?_
  rintro e w' ⟨rfl, rfl⟩
  clear HX hg0
  go_wp2
  go_loop [3] (fun i => ∃ k : Nat, k ≤ n ∧ i = .int .i64 (k : Int) ∧ Hid (∀ j (hj : j < l.length), j < k → atomB l[j] = true)) (fun i => n - (intOf i).toNat)
  case atStart => exact ⟨0, Nat.zero_le _, rfl, Lib.hid fun j _ h => absurd h (by omega)⟩
  case round =>
   obtain ⟨k, hk, rfl, HA⟩ := hrel
   by_cases hlt : k < n
   ·have hk2 : (k : Int) < (n : Int) := by omega
    have hk0 : (0 : Int) ≤ (k : Int) := by omega
    have hks : k < s.size := by rw [HZ.out]; omega
    have hkl : k < l.length := by rw [HL.out]; omega
    have hget : s[k] = l[k] := by
     have h := HS.out
     subst h
     rfl
    have HST := Lib.hid (tw_stop (p := atomB) hkl HA.out)
    have HNX := Lib.hid (show atomB l[k] = true → ∀ j (hj : j < l.length), j < k + 1 → atomB l[j] = true from fun h j hj hjk => by
     rcases Nat.lt_or_ge j k with h1 | h1
     ·exact HA.out j hj h1
     ·have : j = k := by omega
      subst this; exact h)
    have HZ0 := Lib.hid (show k = 0 → l[k] = c from fun h => by subst h; exact H00.out)
    obtain ⟨d, hc⟩ : ∃ c, l[k] = c := ⟨_, rfl⟩
    rw [hc] at hget HST HNX HZ0
    obtain ⟨x, hx⟩ : ∃ x : Int, (d.toNat : Int) = x := ⟨_, rfl⟩
    have hgi : ((s[k]).toNat : Int) = x := by rw [hget]; exact hx
    have HX := Lib.hid hx
    have hx0 : 0 ≤ x := by omega
    have hx1 : x ≤ 255 := by have := d.toNat_lt; omega
    clear hc hkl hget hx
    have hblk := ratom_any d
    rw [HX.out] at hblk
    obtain ⟨b, hb⟩ : ∃ b, atomB d = b := ⟨_, rfl⟩
    rw [hb] at hblk HST HNX
    have HBK := Lib.hid hblk
    have HBB := Lib.hid hb
    clear hblk hb
    cases b
    ·have HF := Lib.hid (HST.out rfl)
     have hkp : 0 < k := by
      rcases Nat.eq_zero_or_pos k with h | h
      ·have h1 := HBB.out
       rw [HZ0.out h, HATT.out] at h1
       cases h1
      ·exact h
     have hkp2 : decide (0 < (k : Int)) = true := decide_eq_true (by omega)
     go_wp2_with fail
     refine (HBK.out _).mono ?_
     rintro e w' ⟨rfl, rfl⟩
     go_wp2
     go_returns
     exact front_fin HS.out rfl (HFV.out _ HF.out) ((Below.refl _ _).alloc (Nat.le_refl _) _)
    ·have HXX := Lib.hid (HNX.out rfl)
     go_wp2_with fail
     refine (HBK.out _).mono ?_
     rintro e w' ⟨rfl, rfl⟩
     go_wp2
     go_round
     case rel => exact ⟨k + 1, by omega, by go_num, HXX⟩
     case measure => simp [intOf] <;> omega
   ·obtain rfl : k = n := by omega
    have HF := Lib.hid (show (l.takeWhile atomB).length = k by rw [tw_all fun j hj => HA.out j hj (by rw [HL.out] at hj; exact hj), HL.out])
    have hkp : 0 < k := hpos
    have hkp2 : decide (0 < (k : Int)) = true := decide_eq_true (by omega)
    clear hpos
    go_wp2
    go_returns
    exact front_fin HS.out rfl (HFV.out _ HF.out) ((Below.refl _ _).alloc (Nat.le_refl _) _)
theorem rfront_any (c : UInt8) (r : List UInt8) (w : World) (hl : (c :: r).length ≤ 1000000000) :
  Calls Tryz.prog 256 #[.string (ba (c :: r))] w (FrontPost w (c :: r)) := by
 cases hc : blankB c with
 | true => exact rfront_blank c r w hl hc
 | false =>
  by_cases h1 : c = 40
  ·subst h1; exact rfront_40 r w hl
  by_cases h2 : c = 34
  ·subst h2; exact rfront_34 r w hl
  by_cases h3 : c = 91
  ·subst h3; exact rfront_91 r w hl
  have ho : opens c = none := by unfold opens; rw [if_neg h1, if_neg h2, if_neg h3]
  cases hsp : specials.contains c with
  | true => exact rfront_special c r w hl hc ho hsp
  | false =>
   cases hat : atomB c with
   | true => exact rfront_atom c r w hl hc ho hsp hat
   | false => exact rfront_bad c r w hl hc ho hsp hat
end Go.Proofs.YthidbmeaccpjdaaGreatDoor
end
section
namespace Go.Proofs.YthidbmeaccpjdaaGreatDoor
open Go.RowKit
set_option linter.unusedVariables false
theorem kept_cell {w w' : World} {row : Option Nat} {p : Addr} {v : Value} (h : w.grownBy w' row) (hp : p.block < w.heap.size) (hne : row ≠ some p.block) (hc : w.cell? p = some v) : w'.cell? p = some v := by
 rw [← hc]
 unfold World.cell?
 rw [h.block p.block hp (fun e => hne e.symm)]
set_option maxRecDepth 100000 in
set_option maxHeartbeats 4000000 in
theorem rscan_any (l : List UInt8) (w : World) (hl : l.length ≤ 1000000000) :
  Calls Tryz.prog 220 #[.string (ba l)] w fun e w' => ∃ v, e = .returned v ∧ OwnToks w' w.heap.size v (scanP l) ∧ Below w.heap.size w w' := by
 go_enter Tryz.func220, Tryz.ntmps220
 go_wp2
 go_loopw [0, 3, 4] (fun s v b wr => ∃ (r : List UInt8) (acc : List Tok) (y : Value), b = y ∧ s = .string (ba r) ∧ Hid (ScanRel w l r acc v wr)) (fun s _ _ _ => (strOf s).size)
 case atStart => exact ⟨l, [], _, rfl, rfl, OwnToks.nil_ _ _, Below.refl _ _, rfl, by simp⟩
 case round =>
  obtain ⟨r, acc, y, rfl, rfl, HR⟩ := hrel
  have hsz := HR.out.2.1.size
  cases r with
  | nil =>
   have g1 : (ba ([] : List UInt8)).toList.isEmpty = true := by rw [ba_toList]; rfl
   go_wp2
   go_ret
   refine ⟨_, rfl, ?_, HR.out.2.1⟩
   have h := HR.out.2.2.1
   rw [scanP_nil, List.append_nil] at h
   rw [← h]
   exact HR.out.1
  | cons c r =>
   have g1 : (ba (c :: r)).toList.isEmpty = false := by rw [ba_toList]; rfl
   have hlen := HR.out.2.2.2
   have hlen2 : (c :: r).length ≤ l.length := by omega
   have HFR := Lib.hid (rfront_any c r wr (by omega))
   have HNX := Lib.hid (scanP_cons (l := c :: r) (by simp))
   have HLE := Lib.hid (frontP_len (l := c :: r) (by simp))
   have HK := Lib.hid (frontP_kind (c :: r))
   have HDR := Lib.hid (fun m => ba_drop (c :: r) m)
   unfold FrontPost at HFR
   obtain ⟨⟨k, m⟩, hf⟩ : ∃ v, frontP (c :: r) = v := ⟨_, rfl⟩
   rw [hf] at HNX HLE HK
   simp only [hf] at HFR
   clear hf
   have HTL := Lib.hid (show ((c :: r).take m).length = m by rw [List.length_take]; exact Nat.min_eq_left HLE.out.2)
   obtain ⟨t, ht⟩ : ∃ t, (c :: r).take m = t := ⟨_, rfl⟩
   obtain ⟨d, hd⟩ : ∃ d, (c :: r).drop m = d := ⟨_, rfl⟩
   have HDL := Lib.hid (show d.length < (c :: r).length by
    have h1 := HLE.out.1
    have h2 := HLE.out.2
    rw [← hd, List.length_drop]
    have h3 : (c :: r).length = r.length + 1 := rfl
    show (c :: r).length - m < _
    have h4 : 0 < m := h1
    omega)
   have HNX2 := Lib.hid (show scanP (c :: r) = ⟨k, t⟩ :: scanP d by rw [HNX.out, ← ht, ← hd])
   have hcut := HDR.out m
   rw [hd] at hcut
   rw [ht] at HTL
   simp only [ht] at HFR
   have hts : (ba t).size = m := by rw [ba_size]; exact HTL.out
   have hmz : m ≤ (ba (c :: r)).size := by rw [ba_size]; exact HLE.out.2
   have hmz2 : (ba t).size ≤ (ba (c :: r)).size := by rw [hts]; exact hmz
   have hmz3 : ((ba t).size : Int) ≤ ((ba (c :: r)).size : Int) := by omega
   have HCUT := Lib.hid hcut
   have HTS := Lib.hid hts
   clear ht hd HNX hlen2 HDR hcut hts
   go_wp2_with fail
   refine HFR.out.mono ?_
   rintro e w1 ⟨rfl, hb1⟩
   have HB1 := Lib.hid hb1
   have hsz1 := hb1.size
   clear HFR hb1
   have HOWN0 := Lib.hid (HR.out.1.below HB1.out)
   have hu3 : ∀ g, u3.ownBlock = some g → g < wr.heap.size := fun g e => (HR.out.1.row.lt g e).2
   have HU3 := Lib.hid hu3
   clear hu3
   have HB2 := Lib.hid (show Below w.heap.size w (w1.alloc (.cells #[.int .i64 k, .string (ba t)] 94)) from (HR.out.2.1.trans (HB1.out.mono hsz)).alloc (by omega) _)
   have HOWN : Hid (OwnToks (w1.alloc (.cells #[.int .i64 k, .string (ba t)] 94)) w.heap.size u3 acc) := Lib.hid (HR.out.1.below (HB1.out.alloc hsz1 _))
   have hB : w.heap.size ≤ (w1.alloc (.cells #[.int .i64 k, .string (ba t)] 94)).heap.size := by simp; omega
   have HTK : Hid (TokOk (⟨k, t⟩ : Tok)) := Lib.hid (by have h1 := HK.out.1; have h2 := HK.out.2; unfold TokOk; exact ⟨by show _ ≤ k; have : (0 : Int) ≤ k := h1; omega, by show k ≤ _; have : k ≤ (7 : Int) := h2; omega⟩)
   have HAL := Lib.hid (show acc.length ≤ 1000000000 by omega)
   have HTX := Lib.hid (show ∀ w2, (w1.alloc (.cells #[.int .i64 k, .string (ba t)] 94)).grownBy w2 u3.ownBlock → w2.cell? ⟨w1.heap.size, 1, none⟩ = some (.string (ba t)) from fun w2 h =>
    kept_cell h (by simp) (fun e => by have : w1.heap.size < wr.heap.size := HU3.out _ e; omega) (by simp))
   go_wp2_with (at_builtin; go_must (refine wpList_pushTok (W := (w1.alloc (.cells #[.int .i64 k, .string (ba t)] 94))) HOWN.out hB HTK.out HAL.out rfl (.tmp 9) (.tmp 11) 1 rfl rfl (by show Value.slice (some ⟨w1.heap.size + 1, 0, none⟩) 1 1 = _; simp) ?_); intro v2 w2 h1 h2; (have H1 := Lib.hid h1; have H2 := Lib.hid h2; clear h1 h2); (have htx := HTX.out _ H2.out))
   go_roundw
   case rel =>
    refine ⟨d, acc ++ [⟨k, t⟩], _, rfl, by rw [HTS.out, HCUT.out], H1.out, HB2.out.grown H2.out hB fun g e => (HOWN.out.row.lt g e).1, ?_, ?_⟩
    ·rw [List.append_assoc, ← HR.out.2.2.1, HNX2.out]; rfl
    ·have := HDL.out
     rw [List.length_append]
     show acc.length + 1 + _ ≤ _
     omega
   case measure =>
    rw [HTS.out, HCUT.out]
    show (ba d).size < (ba (c :: r)).size
    rw [ba_size, ba_size]
    exact HDL.out
set_option maxRecDepth 100000 in
set_option maxHeartbeats 4000000 in
theorem rbare_any (ts : List Tok) (A : Option Addr) (n c : Nat) (w : World) (hT : Toks w w.heap.size A n ts) (hn : n ≤ 1000000000) :
  Calls Tryz.prog 219 #[.slice A n c] w fun e w' => ∃ v, e = .returned v ∧ OwnToks w' w.heap.size v (bareP ts) ∧ Below w.heap.size w w' := by
 go_enter Tryz.func219, Tryz.ntmps219
 have HT := Lib.hid hT
 obtain rfl : n = ts.length := hT.1
 obtain ⟨n, hn2⟩ : ∃ n, ts.length = n := ⟨_, rfl⟩
 have HN := Lib.hid hn2
 rw [hn2] at hn ⊢
 clear hT hn2
 go_wp2
 go_loopw [3, 4] (fun v i wr => ∃ k : Nat, k ≤ n ∧ i = .int .i64 (k : Int) ∧ Hid (BareRel w ts k v wr)) (fun _ i _ => n - (intOf i).toNat)
 case atStart => exact ⟨0, Nat.zero_le _, rfl, OwnToks.nil_ _ _, Below.refl _ _⟩
 case round =>
  obtain ⟨k, hk, rfl, HR⟩ := hrel
  have hsz := HR.out.2.size
  by_cases hlt : k < n
  ·have hk2 : (k : Int) < n := by omega
   have hkl : k < ts.length := by rw [HN.out]; exact hlt
   obtain ⟨ad, rfl, hbl, c0, c1, c2⟩ := (HT.out.below HR.out.2).2 k hkl
   have HP := Lib.hid (bare_step ts k hkl)
   have hal : (bareP (ts.take k)).length ≤ 1000000000 := by
    have h1 : (bareP (ts.take k)).length ≤ (ts.take k).length := List.length_filter_le _ _
    rw [List.length_take] at h1
    omega
   have HAL := Lib.hid hal
   obtain ⟨t, ht⟩ : ∃ t, ts[k] = t := ⟨_, rfl⟩
   rw [ht] at c0 c1 c2 HP
   have HC2 := Lib.hid c2
   clear ht hal c2
   have HOWN := Lib.hid HR.out.1
   have HBEL := Lib.hid HR.out.2
   by_cases e6 : t.kind = 6
   ·have g6 : (t.kind != 6) = false := by simp [e6]
    have HD := Lib.hid (show bareP [t] = [] by unfold bareP keepB; simp [e6])
    clear e6
    go_wp2
    go_roundw
    case rel =>
     refine ⟨k + 1, by omega, by go_num, ?_, HBEL.out⟩
     rw [HP.out, HD.out, List.append_nil]
     exact HOWN.out
    case measure => simp [intOf] <;> omega
   have g6 : (t.kind != 6) = true := by simpa using e6
   by_cases e3 : t.kind = 3
   ·have g3 : (t.kind != 3) = false := by simp [e3]
    have HD := Lib.hid (show bareP [t] = [] by unfold bareP keepB; simp [e3])
    clear e3 e6
    go_wp2
    go_roundw
    case rel =>
     refine ⟨k + 1, by omega, by go_num, ?_, HBEL.out⟩
     rw [HP.out, HD.out, List.append_nil]
     exact HOWN.out
    case measure => simp [intOf] <;> omega
   have g3 : (t.kind != 3) = true := by simpa using e3
   have HD := Lib.hid (show bareP [t] = [t] by unfold bareP keepB; simp [e3, e6])
   clear e3 e6
   go_wp2_with (at_builtin; go_must (refine wpList_pushTok (W := wr) HOWN.out hsz HC2.out HAL.out rfl (.tmp 25) (.tmp 30) 1 rfl rfl rfl ?_); intro v2 w2 h1 h2; (have H1 := Lib.hid h1; have H2 := Lib.hid h2; clear h1 h2))
   go_roundw
   case rel =>
    refine ⟨k + 1, by omega, by go_num, ?_, HBEL.out.grown H2.out hsz fun g e => (HOWN.out.row.lt g e).1⟩
    rw [HP.out, HD.out]
    exact H1.out
   case measure => simp [intOf] <;> omega
  ·obtain rfl : k = n := by omega
   go_wp2
   go_ret
   refine ⟨_, rfl, ?_, HR.out.2⟩
   have := HR.out.1
   rw [List.take_of_length_le (by rw [HN.out]; exact Nat.le_refl _)] at this
   exact this
end Go.Proofs.YthidbmeaccpjdaaGreatDoor
end
section
namespace Go.Proofs.YthidbmeaccpjdaaGreatDoor
open Go.RowKit
set_option linter.unusedVariables false
theorem unescP_cons (c : UInt8) (r : List UInt8) : unescP (c :: r) = if c = 92 then r.take 1 ++ unescP (r.drop 1) else if c = 10 ∨ c = 13 then unescP r else c :: unescP r := by
 cases r with
 | nil =>
  unfold unescP
  have h : unescP [] = [] := by unfold unescP; rfl
  show (if c = 92 then [] else if c = 10 ∨ c = 13 then [] else [c]) = if c = 92 then unescP [] else if c = 10 ∨ c = 13 then unescP [] else c :: unescP []
  rw [h]
 | cons x t =>
  conv => lhs; unfold unescP
  rfl
theorem inner_eq (l : List UInt8) (h : 2 ≤ l.length) : (ba l).extract 1 ((ba l).size - 1) = ba ((l.drop 1).take (l.length - 2)) := by
 rw [ba_size, ba_cut, List.drop_take]
 rfl
def RVRel (w : World) (q : List UInt8) (k : Nat) (v : Value) (wr : World) : Prop := ∃ acc, OwnBytes wr w.heap.size v acc ∧ Below w.heap.size w wr ∧ acc ++ unescP (q.drop k) = unescP q ∧ acc.length ≤ k
theorem str_fin {w w' : World} {l : List UInt8} {t : ByteArray} (ht : t = ba l) (hb : Below w.heap.size w w') : StrB w l (.returned (.string t)) w' := by
 subst ht
 exact ⟨rfl, hb⟩
theorem rvalue_short (t : Tok) (w : World) (h : (t.kind ≠ 2 ∧ t.kind ≠ 3) ∨ t.text.length < 2) :
  Calls Tryz.prog 258 #[.agg #[.int .i64 t.kind, .string (ba t.text)]] w (StrB w (meanP t)) := by
 have HM := Lib.hid (show meanP t = t.text by unfold meanP; rw [if_pos h])
 by_cases e2 : t.kind ≠ 2 ∧ t.kind ≠ 3
 ·have g2 : (t.kind != 2) = true := by simpa using e2.1
  have g3 : (t.kind != 3) = true := by simpa using e2.2
  clear e2 h
  go_enter Tryz.func258, Tryz.ntmps258
  go_wp2
  go_ret
  exact str_fin (by rw [HM.out]) ((Below.refl _ _).alloc (Nat.le_refl _) _)
 have e1 : t.text.length < 2 := h.resolve_left e2
 have hsz : ((ba t.text).size : Int) < 2 := by rw [ba_size]; omega
 by_cases e3 : t.kind = 2
 ·have g2 : (t.kind != 2) = false := by simp [e3]
  clear e2 e1 e3 h
  go_enter Tryz.func258, Tryz.ntmps258
  go_wp2
  go_ret
  exact str_fin (by rw [HM.out]) ((Below.refl _ _).alloc (Nat.le_refl _) _)
 ·have g2 : (t.kind != 2) = true := by simpa using e3
  have e4 : t.kind = 3 := by
   by_cases h : t.kind = 3
   ·exact h
   ·exact absurd ⟨e3, h⟩ e2
  have g3 : (t.kind != 3) = false := by simp [e4]
  clear e2 e1 e3 e4 h
  go_enter Tryz.func258, Tryz.ntmps258
  go_wp2
  go_ret
  exact str_fin (by rw [HM.out]) ((Below.refl _ _).alloc (Nat.le_refl _) _)
set_option maxRecDepth 100000 in
set_option maxHeartbeats 4000000 in
theorem rvalue_long (t : Tok) (w : World) (hl : t.text.length ≤ 1000000000) (h : t.kind = 2 ∨ t.kind = 3) (h2 : 2 ≤ t.text.length) :
  Calls Tryz.prog 258 #[.agg #[.int .i64 t.kind, .string (ba t.text)]] w (StrB w (meanP t)) := by
 have HM := Lib.hid (show meanP t = unescP ((t.text.drop 1).take (t.text.length - 2)) by
  unfold meanP
  rw [if_neg (fun hh => by rcases hh with hh | hh; exact h.elim hh.1 hh.2; omega)])
 have HQ := Lib.hid (inner_eq t.text h2)
 obtain ⟨q, hq⟩ : ∃ q, (t.text.drop 1).take (t.text.length - 2) = q := ⟨_, rfl⟩
 have hqn : q.length ≤ 1000000000 := by rw [← hq, List.length_take, List.length_drop]; omega
 rw [hq] at HQ HM
 clear hq
 have hsz : ¬ ((ba t.text).size : Int) < 2 := by rw [ba_size]; omega
 have hsz2 : (2 : Int) ≤ ((ba t.text).size : Int) := by omega
 have hsz3 : ((ba t.text).size : Int) ≤ 1000000000 := by rw [ba_size]; omega
 have g : (t.kind = 2 ∧ (t.kind != 2) = false) ∨ ((t.kind != 2) = true ∧ (t.kind != 3) = false) := by
  rcases h with h | h
  ·exact .inl ⟨h, by simp [h]⟩
  ·exact .inr ⟨by simp [h], by simp [h]⟩
 have hne0 : (t.kind != 2) = false ∨ ((t.kind != 2) = true ∧ (t.kind != 3) = false) := g.imp And.right id
 clear h h2 hl g
 obtain ⟨s0, hs0⟩ : ∃ s, ba t.text = s := ⟨_, rfl⟩
 rw [hs0] at HQ hsz hsz2 hsz3
 rw [hs0]
 clear hs0
 rcases hne0 with g2 | ⟨g2, g3⟩
 all_goals
  go_enter Tryz.func258, Tryz.ntmps258
  go_wp2
  rw [HQ.out]
  obtain ⟨s, hs⟩ : ∃ s, ba q = s := ⟨_, rfl⟩
  obtain ⟨n, hn⟩ : ∃ n, q.length = n := ⟨_, rfl⟩
  have HS := Lib.hid hs
  have HL := Lib.hid hn
  have HZ := Lib.hid (show s.size = n by rw [← hs, ba_size, hn])
  have hszs : (s.size : Int) = n := by rw [HZ.out]
  rw [hn] at hqn
  rw [hs]
  clear hs hn
  go_loopw [4, 5] (fun v i wr => ∃ k : Nat, k ≤ n + 1 ∧ i = .int .i64 (k : Int) ∧ Hid (RVRel w q k v wr)) (fun _ i _ => n + 1 - (intOf i).toNat)
  case atStart => exact ⟨0, Nat.zero_le _, rfl, Lib.hid ⟨[], OwnBytes.nil_ _ _, (Below.refl _ _).alloc (Nat.le_refl _) _, rfl, Nat.le_refl _⟩⟩
  case round =>
   obtain ⟨k, hk, rfl, HR⟩ := hrel
   obtain ⟨acc, hown, hbel, heq, hal⟩ := HR.out
   have hB := hbel.size
   have HOWN := Lib.hid hown
   have HBEL := Lib.hid hbel
   have HAL := Lib.hid (show acc.length < 1099511627776 by omega)
   have HAK := Lib.hid hal
   have HEQ0 := Lib.hid heq
   clear HR hown hbel hal heq
   by_cases hlt : k < n
   ·have hk2 : (k : Int) < (n : Int) := by omega
    have hk0 : (0 : Int) ≤ (k : Int) := by omega
    have hks : k < s.size := by rw [HZ.out]; omega
    have hkl : k < q.length := by rw [HL.out]; omega
    have hget : s[k] = q[k] := by
     have h := HS.out
     subst h
     rfl
    have heq := HEQ0.out
    rw [List.drop_eq_getElem_cons hkl, unescP_cons] at heq
    have HEQ := Lib.hid heq
    clear heq
    obtain ⟨c, hc⟩ : ∃ c, q[k] = c := ⟨_, rfl⟩
    rw [hc] at hget HEQ
    obtain ⟨x, hx⟩ : ∃ x : Int, (c.toNat : Int) = x := ⟨_, rfl⟩
    have hgi : ((s[k]).toNat : Int) = x := by rw [hget]; exact hx
    have HX := Lib.hid hx
    clear hc hkl hget hx
    by_cases e1 : x = 92
    ·have g1 : (x == 92) = true := by simpa using e1
     have HE2 := HEQ.out
     rw [if_pos (u8_int_eq.1 (by rw [HX.out]; exact e1)), List.drop_drop] at HE2
     have HE := Lib.hid HE2
     clear e1 HE2
     by_cases hlt2 : k + 1 < n
     ·have hk3 : (k : Int) + 1 < (n : Int) := by omega
      have hks2 : k + 1 < s.size := by rw [HZ.out]; omega
      have hkl2 : k + 1 < q.length := by rw [HL.out]; omega
      have hget2 : s[k + 1] = q[k + 1] := by
       have h := HS.out
       subst h
       rfl
      have HT := Lib.hid (show (q.drop (k + 1)).take 1 = [q[k + 1]] by rw [List.drop_eq_getElem_cons hkl2]; rfl)
      obtain ⟨d, hd⟩ : ∃ c, q[k + 1] = c := ⟨_, rfl⟩
      rw [hd] at hget2 HT
      obtain ⟨y, hy⟩ : ∃ x : Int, (d.toNat : Int) = x := ⟨_, rfl⟩
      have hgi2 : ((s[k + 1]).toNat : Int) = y := by rw [hget2]; exact hy
      have HY := Lib.hid hy.symm
      clear hd hkl2 hget2 hy
      go_wp2_with (at_builtin; go_must (refine wpList_pushByte (y := d) HOWN.out hB HY.out HAL.out rfl (.tmp 45) (.tmp 49) 1 rfl rfl rfl ?_); intro v2 w2 h1 h2 h3; (have H1 := Lib.hid h1; have H2 := Lib.hid h2; clear h1 h2 h3))
      go_roundw
      case rel =>
       refine ⟨k + 2, by omega, by go_num, Lib.hid ⟨_, H1.out, HBEL.out.grown H2.out hB fun g e => (World.ownsRow.lt HOWN.out g e).1, ?_, ?_⟩⟩
       ·have := HE.out
        rw [HT.out] at this
        rw [List.append_assoc]
        exact this
       ·have := HAK.out
        rw [List.length_append]
        show acc.length + 1 ≤ k + 2
        omega
      case measure => simp [intOf] <;> omega
     ·have hk3 : ¬ (k : Int) + 1 < (n : Int) := by omega
      go_wp2
      go_roundw
      case rel =>
       refine ⟨k + 2, by omega, by go_num, Lib.hid ⟨acc, HOWN.out, HBEL.out, ?_, by have := HAK.out; omega⟩⟩
       have := HE.out
       rw [List.drop_of_length_le (show q.length ≤ k + 1 by rw [HL.out]; omega), show k + 1 + 1 = k + 2 by omega] at this
       exact this
      case measure => simp [intOf] <;> omega
    have g1 : (x == 92) = false := by simpa using e1
    have HE2 := HEQ.out
    rw [if_neg (fun h => e1 (by rw [← HX.out, h]; rfl))] at HE2
    clear e1 HEQ
    by_cases e2 : x = 10 ∨ x = 13
    ·rw [if_pos (e2.imp (fun h => u8_int_eq.1 (by rw [HX.out]; exact h)) (fun h => u8_int_eq.1 (by rw [HX.out]; exact h)))] at HE2
     have HE := Lib.hid HE2
     have g4 : (x != 10) = false ∨ ((x != 10) = true ∧ (x != 13) = false) := by
      rcases e2 with h | h
      ·exact .inl (by simp [h])
      ·exact .inr ⟨by simp [h], by simp [h]⟩
     clear e2 HE2
     rcases g4 with g4 | ⟨g4, g5⟩
     all_goals
      go_wp2
      go_roundw
      case rel => exact ⟨k + 1, by omega, by go_num, Lib.hid ⟨acc, HOWN.out, HBEL.out, HE.out, by have := HAK.out; omega⟩⟩
      case measure => simp [intOf] <;> omega
    ·rw [if_neg (fun h => e2 (h.imp (fun h => by rw [← HX.out, h]; rfl) (fun h => by rw [← HX.out, h]; rfl)))] at HE2
     have HE := Lib.hid HE2
     have g4 : (x != 10) = true := by
      have : ¬ x = 10 := fun h => e2 (.inl h)
      simpa using this
     have g5 : (x != 13) = true := by
      have : ¬ x = 13 := fun h => e2 (.inr h)
      simpa using this
     clear e2 HE2
     go_wp2_with (at_builtin; go_must (refine wpList_pushByte (y := c) HOWN.out hB HX.out.symm HAL.out rfl (.tmp 61) (.tmp 65) 1 rfl rfl rfl ?_); intro v2 w2 h1 h2 h3; (have H1 := Lib.hid h1; have H2 := Lib.hid h2; clear h1 h2 h3))
     go_roundw
     case rel =>
      refine ⟨k + 1, by omega, by go_num, Lib.hid ⟨_, H1.out, HBEL.out.grown H2.out hB fun g e => (World.ownsRow.lt HOWN.out g e).1, ?_, ?_⟩⟩
      ·have := HE.out
       rw [List.append_assoc]
       exact this
      ·have := HAK.out
       rw [List.length_append]
       show acc.length + 1 ≤ k + 1
       omega
     case measure => simp [intOf] <;> omega
   ·have hk2 : ¬ (k : Int) < (n : Int) := by omega
    have hacc : acc = unescP q := by
     have := HEQ0.out
     rw [List.drop_of_length_le (by rw [HL.out]; omega)] at this
     have h0 : unescP [] = [] := by unfold unescP; rfl
     rw [h0, List.append_nil] at this
     exact this
    have hconv := HOWN.out.str
    have HACC := Lib.hid hacc
    clear hacc
    go_wp2
    go_ret
    exact str_fin (by rw [HACC.out, HM.out]) HBEL.out
theorem rvalue_any (t : Tok) (w : World) (hl : t.text.length ≤ 1000000000) :
  Calls Tryz.prog 258 #[.agg #[.int .i64 t.kind, .string (ba t.text)]] w (StrB w (meanP t)) := by
 by_cases h : (t.kind ≠ 2 ∧ t.kind ≠ 3) ∨ t.text.length < 2
 ·exact rvalue_short t w h
 ·refine rvalue_long t w hl ?_ (by omega)
  by_cases h2 : t.kind = 2
  ·exact .inl h2
  ·by_cases h3 : t.kind = 3
   ·exact .inr h3
   ·exact absurd (.inl ⟨h2, h3⟩) h
end Go.Proofs.YthidbmeaccpjdaaGreatDoor
end
