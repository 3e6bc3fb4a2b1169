/- Layer 10: the contract of front (printed by gen_tokd. The reference of layer 10: the contract of front (printed by gen_rfront. Layer 6, plain: base64 and quoted-printable, decoded. Layer 14, plain: the parts of a message. -/
import Derived.Handy
import Derived.Test.YthidbmeaccpjdaaGreatDoorM06
import Derived.Test.YthidbmeaccpjdaaGreatDoorM03
import Derived.Test.YthidbmeaccpjdaaGreatDoorM05
import Derived.Test.YthidbmeaccpjdaaGreatDoorM01
namespace Go.Proofs.YthidbmeaccpjdaaGreatDoor
open Go.RowKit
set_option linter.unusedVariables false
set_option maxHeartbeats 4000000
theorem front_cut {l : List UInt8} {s : ByteArray} {n : Nat} (hs : ba l = s) (hn : s.size = n) (m : Nat) : s.extract 0 m = ba (l.take m) ∧ s.extract m n = ba (l.drop m) := by
 subst hs
 subst hn
 exact ⟨by rw [ba_cut]; rfl, ba_drop l m⟩
theorem closedV_le {z c : UInt8} {r : List UInt8} : (closedV z (c :: r)).1 ≤ r.length + 1 := by
 unfold closedV
 rw [show (c :: r).drop 1 = r from rfl]
 split
 ·rename_i m hm
  have := closeP_le _ _ _ _ hm
  show m + 1 ≤ _
  omega
 ·exact Nat.le_refl _
theorem front_open {c z : UInt8} {r : List UInt8} {k : Int} (hb : blankB c = false) (ho : opens c = some (k, z)) :
  frontP (c :: r) = (if (closedV z (c :: r)).2 = true then k else 7, (closedV z (c :: r)).1) := by
 rw [frontP_cons, if_neg (by rw [hb]; decide), ho]
 unfold closedV
 rw [show (c :: r).drop 1 = r from rfl]
 show (match closeP z 1 r with | some n => (k, n + 1) | none => (7, r.length + 1)) = _
 split <;> rename_i h <;> simp [h]
theorem front_end (w : World) {c : UInt8} {r : List UInt8} {s : ByteArray} {k : Int} {m : Nat} (hs : ba (c :: r) = s) (hn : s.size = r.length + 1) (hf : frontP (c :: r) = (k, m)) :
  Ending.returned (.tuple #[.agg #[.int .i64 k, .string (s.extract 0 m)], .string (s.extract m (r.length + 1))]) =
   .returned (.tuple #[.agg #[.int .i64 (frontP (c :: r)).1, .string (ba ((c :: r).take (frontP (c :: r)).2))], .string (ba ((c :: r).drop (frontP (c :: r)).2))]) ∧
  (w.alloc (.cells #[.int .i64 k, .string (s.extract 0 m)] 94)).drew = (w.alloc (.cells #[.int .i64 (frontP (c :: r)).1, .string (ba ((c :: r).take (frontP (c :: r)).2))] 94)).drew := by
 rw [hf, (front_cut hs hn m).1, (front_cut hs hn m).2]
 exact ⟨rfl, rfl⟩
set_option maxRecDepth 100000 in
theorem front_any (c : UInt8) (r : List UInt8) (w : World) (hl : (c :: r).length ≤ 1000000000) :
  Calls Tryz.prog 155 #[.string (ba (c :: r))] w fun e w' => e = .returned (.tuple #[.agg #[.int .i64 (frontP (c :: r)).1, .string (ba ((c :: r).take (frontP (c :: r)).2))], .string (ba ((c :: r).drop (frontP (c :: r)).2))]) ∧ w' = (w.alloc (.cells #[.int .i64 (frontP (c :: r)).1, .string (ba ((c :: r).take (frontP (c :: r)).2))] 94)).drew := by
 have HRB := Lib.hid (fun W => row_blank (c :: r) W hl)
 have HRA := Lib.hid (fun W => row_atom (c :: r) W hl)
 have HCL := Lib.hid (fun z W => closed_any z (c :: r) W hl (by simp))
 have HB := Lib.hid (fun W => tblank_any c W)
 have HA := Lib.hid (fun W => tatom_any c W)
 have HX := Lib.hid (fun W => index_any c W)
 have hsz : (ba (c :: r)).size = r.length + 1 := by rw [ba_size]; simp
 obtain ⟨s, hs⟩ : ∃ s, ba (c :: r) = s := ⟨_, rfl⟩
 rw [hs] at hsz HRB HRA HCL ⊢
 have HS := Lib.hid hs
 have hget : ∀ h : 0 < s.size, s[0] = c := fun h => by
  have h2 := HS.out
  subst h2
  rfl
 clear hs
 obtain ⟨b, hb⟩ : ∃ b, blankB c = b := ⟨_, rfl⟩
 rw [hb] at HB
 have HBB := Lib.hid hb
 clear hb
 obtain ⟨x, hx⟩ : ∃ x : Int, (c.toNat : Int) = x := ⟨_, rfl⟩
 simp only [hx] at HB HA HX
 have HXX := Lib.hid hx
 have hgi : ∀ h : 0 < s.size, ((s[0]).toNat : Int) = x := fun h => by rw [hget h]; exact hx
 clear hx hget
 cases b
 ·by_cases e40 : x = 40
  ·have g40 : (x == 40) = true := by simpa using e40
   have HC := Lib.hid (show c = 40 from u8_int_eq.1 (by rw [HXX.out]; exact e40))
   have HF1 := Lib.hid (front_open (r := r) HBB.out (show opens c = some (3, 41) by rw [HC.out]; rfl))
   have hm1 : (closedV 41 (c :: r)).1 ≤ r.length + 1 := closedV_le
   have HCZ : Hid (∀ W, Calls Tryz.prog 205 #[.string s, .int .u8 41] W fun e w' => e = .returned (.tuple #[.int .i64 ((closedV 41 (c :: r)).1 : Nat), .bool (closedV 41 (c :: r)).2]) ∧ w' = W) := Lib.hid (HCL.out 41)
   obtain ⟨⟨m, ok⟩, hm⟩ : ∃ v, closedV 41 (c :: r) = v := ⟨_, rfl⟩
   rw [hm] at HF1 hm1 HCZ
   clear hm e40 HA HX HRA HRB HCL
   cases ok
   ·have HF : Hid (frontP (c :: r) = (7, m)) := Lib.hid (by rw [HF1.out]; rfl)
    go_enter Tryz.func155, Tryz.ntmps155
    go_wp2_with fail
    refine (HB.out _).mono ?_
    rintro e w' ⟨rfl, rfl⟩
    go_wp2_with fail
    refine (HCZ.out _).mono ?_
    rintro e w' ⟨rfl, rfl⟩
    go_wp2
    have hm0 : (0 : Int) ≤ (m : Int) := by omega
    have hms : (m : Int) ≤ (s.size : Int) := by omega
    clear HB HCZ
    go_region
    go_wp2
    go_returns
    exact front_end w HS.out hsz HF.out
   ·have HF : Hid (frontP (c :: r) = (3, m)) := Lib.hid (by rw [HF1.out]; rfl)
    go_enter Tryz.func155, Tryz.ntmps155
    go_wp2_with fail
    refine (HB.out _).mono ?_
    rintro e w' ⟨rfl, rfl⟩
    go_wp2_with fail
    refine (HCZ.out _).mono ?_
    rintro e w' ⟨rfl, rfl⟩
    go_wp2
    have hm0 : (0 : Int) ≤ (m : Int) := by omega
    have hms : (m : Int) ≤ (s.size : Int) := by omega
    clear HB HCZ
    go_region
    go_wp2
    go_returns
    exact front_end w HS.out hsz HF.out
  have g40 : (x == 40) = false := by simpa using e40
  have HN0 := Lib.hid (show ¬ c = 40 from fun h => e40 (by rw [← HXX.out, h]; rfl))
  clear e40
  by_cases e34 : x = 34
  ·have g34 : (x == 34) = true := by simpa using e34
   have HC := Lib.hid (show c = 34 from u8_int_eq.1 (by rw [HXX.out]; exact e34))
   have HF1 := Lib.hid (front_open (r := r) HBB.out (show opens c = some (2, 34) by rw [HC.out]; rfl))
   have hm1 : (closedV 34 (c :: r)).1 ≤ r.length + 1 := closedV_le
   have HCZ : Hid (∀ W, Calls Tryz.prog 205 #[.string s, .int .u8 34] W fun e w' => e = .returned (.tuple #[.int .i64 ((closedV 34 (c :: r)).1 : Nat), .bool (closedV 34 (c :: r)).2]) ∧ w' = W) := Lib.hid (HCL.out 34)
   obtain ⟨⟨m, ok⟩, hm⟩ : ∃ v, closedV 34 (c :: r) = v := ⟨_, rfl⟩
   rw [hm] at HF1 hm1 HCZ
   clear hm e34 HA HX HRA HRB HCL
   cases ok
   ·have HF : Hid (frontP (c :: r) = (7, m)) := Lib.hid (by rw [HF1.out]; rfl)
    go_enter Tryz.func155, Tryz.ntmps155
    go_wp2_with fail
    refine (HB.out _).mono ?_
    rintro e w' ⟨rfl, rfl⟩
    go_wp2_with fail
    refine (HCZ.out _).mono ?_
    rintro e w' ⟨rfl, rfl⟩
    go_wp2
    have hm0 : (0 : Int) ≤ (m : Int) := by omega
    have hms : (m : Int) ≤ (s.size : Int) := by omega
    clear HB HCZ
    go_region
    go_wp2
    go_returns
    exact front_end w HS.out hsz HF.out
   ·have HF : Hid (frontP (c :: r) = (2, m)) := Lib.hid (by rw [HF1.out]; rfl)
    go_enter Tryz.func155, Tryz.ntmps155
    go_wp2_with fail
    refine (HB.out _).mono ?_
    rintro e w' ⟨rfl, rfl⟩
    go_wp2_with fail
    refine (HCZ.out _).mono ?_
    rintro e w' ⟨rfl, rfl⟩
    go_wp2
    have hm0 : (0 : Int) ≤ (m : Int) := by omega
    have hms : (m : Int) ≤ (s.size : Int) := by omega
    clear HB HCZ
    go_region
    go_wp2
    go_returns
    exact front_end w HS.out hsz HF.out
  have g34 : (x == 34) = false := by simpa using e34
  have HN1 := Lib.hid (show ¬ c = 34 from fun h => e34 (by rw [← HXX.out, h]; rfl))
  clear e34
  by_cases e91 : x = 91
  ·have g91 : (x == 91) = true := by simpa using e91
   have HC := Lib.hid (show c = 91 from u8_int_eq.1 (by rw [HXX.out]; exact e91))
   have HF1 := Lib.hid (front_open (r := r) HBB.out (show opens c = some (5, 93) by rw [HC.out]; rfl))
   have hm1 : (closedV 93 (c :: r)).1 ≤ r.length + 1 := closedV_le
   have HCZ : Hid (∀ W, Calls Tryz.prog 205 #[.string s, .int .u8 93] W fun e w' => e = .returned (.tuple #[.int .i64 ((closedV 93 (c :: r)).1 : Nat), .bool (closedV 93 (c :: r)).2]) ∧ w' = W) := Lib.hid (HCL.out 93)
   obtain ⟨⟨m, ok⟩, hm⟩ : ∃ v, closedV 93 (c :: r) = v := ⟨_, rfl⟩
   rw [hm] at HF1 hm1 HCZ
   clear hm e91 HA HX HRA HRB HCL
   cases ok
   ·have HF : Hid (frontP (c :: r) = (7, m)) := Lib.hid (by rw [HF1.out]; rfl)
    go_enter Tryz.func155, Tryz.ntmps155
    go_wp2_with fail
    refine (HB.out _).mono ?_
    rintro e w' ⟨rfl, rfl⟩
    go_wp2_with fail
    refine (HCZ.out _).mono ?_
    rintro e w' ⟨rfl, rfl⟩
    go_wp2
    have hm0 : (0 : Int) ≤ (m : Int) := by omega
    have hms : (m : Int) ≤ (s.size : Int) := by omega
    clear HB HCZ
    go_region
    go_wp2
    go_returns
    exact front_end w HS.out hsz HF.out
   ·have HF : Hid (frontP (c :: r) = (5, m)) := Lib.hid (by rw [HF1.out]; rfl)
    go_enter Tryz.func155, Tryz.ntmps155
    go_wp2_with fail
    refine (HB.out _).mono ?_
    rintro e w' ⟨rfl, rfl⟩
    go_wp2_with fail
    refine (HCZ.out _).mono ?_
    rintro e w' ⟨rfl, rfl⟩
    go_wp2
    have hm0 : (0 : Int) ≤ (m : Int) := by omega
    have hms : (m : Int) ≤ (s.size : Int) := by omega
    clear HB HCZ
    go_region
    go_wp2
    go_returns
    exact front_end w HS.out hsz HF.out
  have g91 : (x == 91) = false := by simpa using e91
  have HN2 := Lib.hid (show ¬ c = 91 from fun h => e91 (by rw [← HXX.out, h]; rfl))
  clear e91
  have HO := Lib.hid (show opens c = none by unfold opens; rw [if_neg HN0.out, if_neg HN1.out, if_neg HN2.out])
  have HF0 := Lib.hid (show frontP (c :: r) = if specials.contains c = true then (4, 1) else if atomB c = true then (1, ((c :: r).takeWhile atomB).length) else (7, 1) by
   rw [frontP_cons, if_neg (by rw [HBB.out]; decide), HO.out])
  have HSI := Lib.hid (specials_index c)
  obtain ⟨v, hv⟩ : ∃ v, Lib.indexByte specials c = v := ⟨_, rfl⟩
  rw [hv] at HSI
  simp only [hv] at HX
  clear hv HCL
  by_cases ev : v < 0
  ·have gv : decide (v ≥ 0) = false := decide_eq_false (by omega)
   have HSC := Lib.hid (show specials.contains c = false by have := HSI.out; simp [ev] at this; simpa using this)
   have HAC := HA.out
   obtain ⟨a, ha⟩ : ∃ a, atomB c = a := ⟨_, rfl⟩
   rw [ha] at HF0
   simp only [ha] at HAC
   have HAD := Lib.hid HAC
   clear HAC ha HA
   cases a
   ·obtain ⟨m, hm⟩ : ∃ m : Nat, m = 1 := ⟨_, rfl⟩
    have HF : Hid (frontP (c :: r) = (7, 1)) := Lib.hid (by rw [HF0.out, if_neg (by rw [HSC.out]; decide), if_neg (by decide)])
    clear hm ev
    go_enter Tryz.func155, Tryz.ntmps155
    go_wp2_with fail
    refine (HB.out _).mono ?_
    rintro e w' ⟨rfl, rfl⟩
    go_wp2_with fail
    refine (HX.out _).mono ?_
    rintro e w' ⟨rfl, rfl⟩
    go_wp2_with fail
    refine (HAD.out _).mono ?_
    rintro e w' ⟨rfl, rfl⟩
    go_wp2
    have hms : (1 : Int) ≤ (s.size : Int) := by omega
    clear HB HX HAD HRA HRB
    go_region
    go_wp2
    go_returns
    exact front_end w HS.out hsz HF.out
   ·obtain ⟨m, hm⟩ : ∃ m, ((c :: r).takeWhile atomB).length = m := ⟨_, rfl⟩
    rw [hm] at HRA HF0
    have hm1 : m ≤ r.length + 1 := by rw [← hm]; exact (List.takeWhile_prefix _).length_le
    have HF : Hid (frontP (c :: r) = (1, m)) := Lib.hid (by rw [HF0.out, if_neg (by rw [HSC.out]; decide), if_pos rfl])
    clear hm ev
    go_enter Tryz.func155, Tryz.ntmps155
    go_wp2_with fail
    refine (HB.out _).mono ?_
    rintro e w' ⟨rfl, rfl⟩
    go_wp2_with fail
    refine (HX.out _).mono ?_
    rintro e w' ⟨rfl, rfl⟩
    go_wp2_with fail
    refine (HAD.out _).mono ?_
    rintro e w' ⟨rfl, rfl⟩
    go_wp2_with fail
    refine (HRA.out _).mono ?_
    rintro e w' ⟨rfl, rfl⟩
    go_wp2
    have hm0 : (0 : Int) ≤ (m : Int) := by omega
    have hms : (m : Int) ≤ (s.size : Int) := by omega
    clear HB HX HAD HRA HRB
    go_region
    go_wp2
    go_returns
    exact front_end w HS.out hsz HF.out
  ·have gv : decide (v ≥ 0) = true := decide_eq_true (by omega)
   have HSC := Lib.hid (show specials.contains c = true by have := HSI.out; simp [ev] at this; simpa using this)
   have HF : Hid (frontP (c :: r) = (4, 1)) := Lib.hid (by rw [HF0.out, if_pos HSC.out])
   clear ev
   go_enter Tryz.func155, Tryz.ntmps155
   go_wp2_with fail
   refine (HB.out _).mono ?_
   rintro e w' ⟨rfl, rfl⟩
   go_wp2_with fail
   refine (HX.out _).mono ?_
   rintro e w' ⟨rfl, rfl⟩
   go_wp2
   have hms : (1 : Int) ≤ (s.size : Int) := by omega
   clear HB HX HA HRA HRB
   go_region
   go_wp2
   go_returns
   exact front_end w HS.out hsz HF.out
 ·obtain ⟨m, hm⟩ : ∃ m, ((c :: r).takeWhile blankB).length = m := ⟨_, rfl⟩
  rw [hm] at HRB
  have hm1 : m ≤ r.length + 1 := by rw [← hm]; exact (List.takeWhile_prefix _).length_le
  have HF := Lib.hid (show frontP (c :: r) = (6, m) by rw [frontP_cons, if_pos HBB.out, hm])
  clear hm
  go_enter Tryz.func155, Tryz.ntmps155
  go_wp2_with fail
  refine (HB.out _).mono ?_
  rintro e w' ⟨rfl, rfl⟩
  go_wp2_with fail
  refine (HRB.out _).mono ?_
  rintro e w' ⟨rfl, rfl⟩
  go_wp2
  have hm0 : (0 : Int) ≤ (m : Int) := by omega
  have hms : (m : Int) ≤ (s.size : Int) := by omega
  clear HB HA HX HRB HRA HCL
  go_region
  go_wp2
  go_returns
  exact front_end w HS.out hsz HF.out

theorem cutP_mk {c : UInt8} : ∀ {a b : List UInt8}, c ∉ a → cutP c (a ++ c :: b) = some (a, b)
 | [], b, _ => by
  show cutP c (c :: b) = _
  unfold cutP
  rw [if_pos rfl]
 | x :: r, b, h => by
  have h1 : c ∉ r := fun e => h (List.mem_cons_of_mem _ e)
  have h2 : x ≠ c := fun e => h (by simp [e])
  rw [List.cons_append]
  unfold cutP
  rw [if_neg h2, cutP_mk h1]
  rfl
def b64V (c : UInt8) : Nat := if 65 ≤ c ∧ c ≤ 90 then c.toNat - 64 else if 97 ≤ c ∧ c ≤ 122 then c.toNat - 70 else if 48 ≤ c ∧ c ≤ 57 then c.toNat + 5 else if c = 43 then 63 else if c = 47 then 64 else 0
def b64A : List UInt8 := [65, 66, 67, 68, 69, 70, 71, 72, 73, 74, 75, 76, 77, 78, 79, 80, 81, 82, 83, 84, 85, 86, 87, 88, 89, 90, 97, 98, 99, 100, 101, 102, 103, 104, 105, 106, 107, 108, 109, 110, 111, 112, 113, 114, 115, 116, 117, 118, 119, 120, 121, 122, 48, 49, 50, 51, 52, 53, 54, 55, 56, 57, 43, 47]
def b64C (n : Nat) : UInt8 := b64A.getD n 0
theorem b64V_C : ∀ n : Fin 64, b64V (b64C n.val) = n.val + 1 ∧ b64C n.val ≠ 61 := by decide +kernel
def b64E (v k : Nat) : List UInt8 := (if 1 < k then [UInt8.ofNat (v / 2 ^ (6 * k - 8))] else []) ++ (if 2 < k then [UInt8.ofNat (v / 2 ^ (6 * k - 16))] else [])
def b64F : Nat → Nat → List UInt8 → List UInt8
 | v, k, [] => b64E v k
 | v, k, c :: r => if b64V c = 0 then b64F v k r else if k = 3 then [UInt8.ofNat ((v * 64 + (b64V c - 1)) / 65536), UInt8.ofNat ((v * 64 + (b64V c - 1)) / 256), UInt8.ofNat (v * 64 + (b64V c - 1))] ++ b64F 0 0 r else b64F (v * 64 + (b64V c - 1)) (k + 1) r
def unb64P (l : List UInt8) : List UInt8 := b64F 0 0 ((cutP 61 l).elim l (·.1))
theorem b64F_len : ∀ (l : List UInt8) (v k : Nat), k ≤ 3 → (b64F v k l).length ≤ l.length + k
 | [], v, k, hk => by
  show (b64E v k).length ≤ _
  unfold b64E
  rw [List.length_append]
  split <;> split <;> simp <;> omega
 | c :: r, v, k, hk => by
  unfold b64F
  split
  ·have := b64F_len r v k hk
   simp only [List.length_cons]; omega
  ·split
   ·have := b64F_len r 0 0 (by omega)
    simp only [List.length_append, List.length_cons, List.length_nil]; omega
   ·have := b64F_len r (v * 64 + (b64V c - 1)) (k + 1) (by omega)
    simp only [List.length_cons]; omega
theorem unb64P_len (l : List UInt8) : (unb64P l).length ≤ l.length := by
 unfold unb64P
 refine Nat.le_trans (b64F_len _ 0 0 (by omega)) ?_
 cases h : cutP 61 l with
 | none => exact Nat.le_refl _
 | some q =>
  have := (cutP_some (a := q.1) (b := q.2) h).1
  show q.1.length + 0 ≤ _
  rw [this]
  simp
def escB : List UInt8 → Option UInt8
 | c :: a :: b :: _ => if c = 61 then (match hexV a, hexV b with
  | some x, some y => some (UInt8.ofNat (x * 16 + y))
  | _, _ => none) else none
 | _ => none
def unqP : List UInt8 → List UInt8
 | c :: a :: b :: r => match escB (c :: a :: b :: r) with
  | some x => x :: unqP r
  | none => c :: unqP (a :: b :: r)
 | [c, d] => [c, d]
 | [c] => [c]
 | [] => []
theorem unqP_nil : unqP [] = [] := rfl
theorem unqP_hit {c x : UInt8} {r : List UInt8} (h : escB (c :: r) = some x) : unqP (c :: r) = x :: unqP (r.drop 2) := by
 match r, h with
 | a :: b :: r, h =>
  conv => lhs; unfold unqP
  rw [h]
  rfl
 | [a], h => cases h
 | [], h => cases h
theorem unqP_skip {c : UInt8} {r : List UInt8} (h : escB (c :: r) = none) : unqP (c :: r) = c :: unqP r := by
 match r, h with
 | a :: b :: r, h =>
  conv => lhs; unfold unqP
  rw [h]
 | [a], h => rfl
 | [], h => rfl
theorem unqP_len : ∀ (n : Nat) (l : List UInt8), l.length ≤ n → (unqP l).length ≤ l.length
 | _, [], _ => Nat.le_refl _
 | 0, c :: r, h => by simp at h
 | n + 1, c :: r, h => by
  have h1 : r.length ≤ n := by simp at h; omega
  cases he : escB (c :: r) with
  | some x =>
   rw [unqP_hit he]
   have := unqP_len n (r.drop 2) (by rw [List.length_drop]; omega)
   rw [List.length_drop] at this
   simp only [List.length_cons]; omega
  | none =>
   rw [unqP_skip he]
   have := unqP_len n r h1
   simp only [List.length_cons]; omega
def nakedP (l : List UInt8) : List UInt8 := Lib.trimRightS l blanksP
def qpLine (a : List UInt8) (more : Bool) : List UInt8 :=
 let e := if more = true then (if a.getLast? = some 13 then (a.dropLast, [13, 10]) else (a, [10])) else (a, ([] : List UInt8))
 let t := nakedP e.1
 if t.getLast? = some 61 then unqP t.dropLast else unqP t ++ e.2
def unqpF : Nat → List UInt8 → List UInt8
 | 0, _ => []
 | f + 1, l => if l = [] then [] else match cutP 10 l with
  | none => qpLine l false
  | some q => qpLine q.1 true ++ unqpF f q.2
def unqpP (l : List UInt8) : List UInt8 := unqpF l.length l
theorem unqpF_fuel : ∀ (f g : Nat) (l : List UInt8), l.length ≤ f → l.length ≤ g → unqpF f l = unqpF g l
 | 0, g, l, hf, hg => by
  have : l = [] := List.eq_nil_of_length_eq_zero (by omega)
  subst this
  cases g <;> rfl
 | f + 1, 0, l, hf, hg => by
  have : l = [] := List.eq_nil_of_length_eq_zero (by omega)
  subst this
  rfl
 | f + 1, g + 1, l, hf, hg => by
  unfold unqpF
  by_cases hl : l = []
  ·rw [if_pos hl, if_pos hl]
  ·rw [if_neg hl, if_neg hl]
   cases h : cutP 10 l with
   | none => rfl
   | some q =>
    have h1 := (cutP_some (a := q.1) (b := q.2) h).1
    have h2 := congrArg List.length h1
    rw [List.length_append, List.length_cons] at h2
    show qpLine q.1 true ++ unqpF f q.2 = qpLine q.1 true ++ unqpF g q.2
    rw [unqpF_fuel f g q.2 (by omega) (by omega)]
theorem unqpP_nil : unqpP [] = [] := rfl
theorem unqpP_last {l : List UInt8} (hl : l ≠ []) (h : cutP 10 l = none) : unqpP l = qpLine l false := by
 unfold unqpP
 cases l with
 | nil => exact absurd rfl hl
 | cons c r =>
  rw [List.length_cons]
  unfold unqpF
  rw [if_neg hl, h]
theorem unqpP_more {l a b : List UInt8} (h : cutP 10 l = some (a, b)) : unqpP l = qpLine a true ++ unqpP b := by
 have h1 := (cutP_some h).1
 have hl : l ≠ [] := by rw [h1]; simp
 have h2 := congrArg List.length h1
 rw [List.length_append, List.length_cons] at h2
 unfold unqpP
 rw [show unqpF l.length l = unqpF (b.length + 1 + a.length) l from unqpF_fuel _ _ _ (Nat.le_refl _) (by omega), show b.length + 1 + a.length = (b.length + a.length) + 1 by omega]
 conv => lhs; unfold unqpF
 rw [if_neg hl, h]
 show qpLine a true ++ unqpF (b.length + a.length) b = _
 rw [unqpF_fuel _ b.length b (by omega) (Nat.le_refl _)]
theorem nakedP_len (l : List UInt8) : (nakedP l).length ≤ l.length := by
 unfold nakedP Lib.trimRightS
 rw [List.length_reverse]
 refine Nat.le_trans (List.dropWhile_suffix _).length_le ?_
 rw [List.length_reverse]
 exact Nat.le_refl _
theorem qpLine_len (a : List UInt8) (m : Bool) : (qpLine a m).length ≤ a.length + (if m = true then 1 else 0) := by
 unfold qpLine
 have key : ∀ (x e : List UInt8) (k : Nat), x.length + e.length ≤ k → (if (nakedP x).getLast? = some 61 then unqP (nakedP x).dropLast else unqP (nakedP x) ++ e).length ≤ k := by
  intro x e k h
  have h1 := nakedP_len x
  split
  ·have h2 := unqP_len _ (nakedP x).dropLast (Nat.le_refl _)
   rw [List.length_dropLast] at h2
   omega
  ·have h2 := unqP_len _ (nakedP x) (Nat.le_refl _)
   rw [List.length_append]
   omega
 cases m with
 | false => exact key a [] _ (by simp)
 | true =>
  by_cases h : a.getLast? = some 13
  ·simp only [if_true, if_pos h]
   have : a ≠ [] := by rintro rfl; cases h
   have h3 : 0 < a.length := List.length_pos_iff.2 this
   exact key _ _ _ (by rw [List.length_dropLast]; simp; omega)
  ·simp only [if_true, if_neg h]
   exact key _ _ _ (by simp)
theorem unqpF_len : ∀ (f : Nat) (l : List UInt8), (unqpF f l).length ≤ l.length
 | 0, l => Nat.zero_le _
 | f + 1, l => by
  unfold unqpF
  split
  ·exact Nat.zero_le _
  ·cases h : cutP 10 l with
   | none =>
    have := qpLine_len l false
    simpa using this
   | some q =>
    have h1 := congrArg List.length (cutP_some (a := q.1) (b := q.2) h).1
    rw [List.length_append, List.length_cons] at h1
    have h2 := qpLine_len q.1 true
    have h3 := unqpF_len f q.2
    simp only [if_true] at h2
    show (qpLine q.1 true ++ unqpF f q.2).length ≤ _
    rw [List.length_append]
    omega
theorem unqpP_len (l : List UInt8) : (unqpP l).length ≤ l.length := unqpF_len _ l
def unqQ (l : List UInt8) : List UInt8 := unqP (l.map fun c => if c = 95 then 32 else c)
theorem unqQ_len (l : List UInt8) : (unqQ l).length ≤ l.length := by
 have := unqP_len _ (l.map fun c => if c = 95 then 32 else c) (Nat.le_refl _)
 rwa [List.length_map] at this
def linesP : List UInt8 → List (List UInt8)
 | [] => []
 | c :: r => if c = 10 then [10] :: linesP r else match linesP r with
  | [] => [[c]]
  | h :: t => (c :: h) :: t
theorem linesP_flat : ∀ l, (linesP l).flatten = l
 | [] => rfl
 | c :: r => by
  have ih := linesP_flat r
  conv => lhs; unfold linesP
  split
  ·rename_i h
   rw [List.flatten_cons, ih, h]
   rfl
  ·cases h : linesP r with
   | nil => rw [h] at ih; rw [← ih]; rfl
   | cons a t =>
    rw [h, List.flatten_cons] at ih
    show (c :: a) ++ t.flatten = _
    rw [← ih]
    rfl
theorem linesP_cut : ∀ {l a b : List UInt8}, cutP 10 l = some (a, b) → linesP l = (a ++ [10]) :: linesP b
 | [], a, b, h => by cases h
 | c :: r, a, b, h => by
  unfold cutP at h
  conv => lhs; unfold linesP
  by_cases hc : c = 10
  ·rw [if_pos hc] at h ⊢
   injection h with h
   injection h with h1 h2
   subst h1
   subst h2
   rfl
  ·rw [if_neg hc] at h ⊢
   cases hr : cutP 10 r with
   | none => rw [hr] at h; cases h
   | some q =>
    obtain ⟨a', b'⟩ := q
    rw [hr] at h
    injection h with h
    injection h with h1 h2
    rw [linesP_cut hr]
    subst h2
    rw [← h1]
    rfl
theorem linesP_one : ∀ {l : List UInt8}, l ≠ [] → cutP 10 l = none → linesP l = [l]
 | [], h, _ => absurd rfl h
 | [c], _, h => by
  have := cutP_none.1 h
  simp at this
  unfold linesP
  rw [if_neg (fun e => this e.symm)]
  rfl
 | c :: d :: r, _, h => by
  have h1 := cutP_none.1 h
  simp at h1
  have h2 : cutP 10 (d :: r) = none := cutP_none.2 (by simp [h1])
  have h3 := linesP_one (by simp) h2
  conv => lhs; unfold linesP
  rw [if_neg (fun e => h1.1 e.symm), h3]
theorem linesP_end {l : List UInt8} (h : l ≠ []) : linesP l = l.take (endP l) :: linesP (l.drop (endP l)) := by
 unfold endP
 cases hc : cutP 10 l with
 | none =>
  rw [linesP_one h hc]
  show _ = l.take l.length :: linesP (l.drop l.length)
  rw [List.take_length, List.drop_length]
  rfl
 | some q =>
  obtain ⟨a, b⟩ := q
  rw [linesP_cut hc]
  have h1 := (cutP_some hc).1
  show _ = l.take (a.length + 1) :: linesP (l.drop (a.length + 1))
  rw [h1, show a ++ 10 :: b = (a ++ [10]) ++ b by simp, show a.length + 1 = (a ++ [10]).length by simp, List.take_left, List.drop_left]
def bndP (l b : List UInt8) : Bool × Bool :=
 if (([45, 45] : List UInt8) ++ b).isPrefixOf l = true then
  let r := l.drop (b.length + 2)
  let s := ([45, 45] : List UInt8).isPrefixOf r
  ((nudeP (if s = true then r.drop 2 else r)).all tabB, s)
 else (false, false)
def aheadP (s : List UInt8) (o a : Nat) : Nat := if o < a ∧ s[a - 1]? = some 10 then (if o < a - 1 ∧ s[a - 1 - 1]? = some 13 then a - 1 - 1 else a - 1) else a
def bodF (s b : List UInt8) : List (List UInt8) → Nat → Option Nat → List (Nat × Nat)
 | [], _, none => []
 | [], _, some o => [(o, s.length)]
 | l :: r, a, o => if (bndP l b).1 = true then
   (match o with
    | some x => [(x, aheadP s x a)]
    | none => []) ++ if (bndP l b).2 = true then [] else bodF s b r (a + l.length) (some (a + l.length))
  else bodF s b r (a + l.length) o
def bodiesP (s : List UInt8) (i : Nat) (b : List UInt8) : List (Nat × Nat) := bodF s b (linesP (s.drop i)) i none
structure Prt where
 up : Int
 depth : Int
 start : Int
 body : Int
 stop : Int
 typ : Typ
 code : List UInt8
def ctName : List UInt8 := [99, 111, 110, 116, 101, 110, 116, 45, 116, 121, 112, 101]
def cteName : List UInt8 := [99, 111, 110, 116, 101, 110, 116, 45, 116, 114, 97, 110, 115, 102, 101, 114, 45, 101, 110, 99, 111, 100, 105, 110, 103]
def wMessage : List UInt8 := [109, 101, 115, 115, 97, 103, 101]
def wRfc : List UInt8 := [114, 102, 99, 56, 50, 50]
def wMulti : List UInt8 := [109, 117, 108, 116, 105, 112, 97, 114, 116]
def wDigest : List UInt8 := [100, 105, 103, 101, 115, 116]
def wBound : List UInt8 := [98, 111, 117, 110, 100, 97, 114, 121]
def wB64 : List UInt8 := [98, 97, 115, 101, 54, 52]
def wQp : List UInt8 := [113, 117, 111, 116, 101, 100, 45, 112, 114, 105, 110, 116, 97, 98, 108, 101]
def codeP (v : List UInt8) : List UInt8 := match bareP (scanP v) with
 | t :: _ => if t.kind = 1 then smallP t.text else []
 | [] => []
def kindP14 (h : List Fld) (digest : Bool) : Typ := if (getP h ctName).isSome = true ∨ digest = false then (parseT ((getP h ctName).getD [])).1 else ⟨wMessage, wRfc, []⟩
def readPt (s : List UInt8) (up depth : Int) (i j : Nat) (digest : Bool) : Prt :=
 let h := headP ((s.take j).drop i)
 ⟨up, depth, i, (i + h.2 : Nat), j, kindP14 h.1 digest, codeP ((getP h.1 cteName).getD [])⟩
def innerP (s : List UInt8) (p : Prt) : List (Nat × Nat) :=
 if 8 ≤ p.depth then []
 else if p.typ.kind = wMulti then
  (if (paramT p.typ.params wBound).getD [] ≠ [] ∧ (10 : UInt8) ∉ (paramT p.typ.params wBound).getD [] then bodiesP (s.take p.stop.toNat) p.body.toNat ((paramT p.typ.params wBound).getD []) else [])
 else if p.typ.kind = wMessage ∧ p.typ.sub = wRfc ∧ p.code ≠ wB64 ∧ p.code ≠ wQp then [(p.body.toNat, p.stop.toNat)] else []
def digestB (p : Prt) : Bool := decide (p.typ.kind = wMulti) && decide (p.typ.sub = wDigest)
def openM (s : List UInt8) : Nat → List Prt × Nat → Prt → List Prt × Nat
 | 0, st, _ => st
 | f + 1, st, p => if 64 < st.2 + (innerP s p).length then (st.1 ++ [p], st.2)
  else (innerP s p).foldl (fun t k => openM s f t (readPt s st.1.length (p.depth + 1) k.1 k.2 (digestB p))) (st.1 ++ [p], st.2 + (innerP s p).length)
def partsP (s : List UInt8) : List Prt := (openM s 9 ([], 1) (readPt s (-1) 0 0 s.length false)).1
def fitsP (n : Nat) (p : Prt) : Bool := decide (0 ≤ p.start ∧ p.start ≤ p.body ∧ p.body ≤ p.stop ∧ p.stop ≤ n)
def headOf (s : List UInt8) (p : Prt) : List Fld := if fitsP s.length p = true then (headP ((s.take p.stop.toNat).drop p.start.toNat)).1 else []
def bodyOf (s : List UInt8) (p : Prt) : List UInt8 := if fitsP s.length p = true then (s.take p.stop.toNat).drop p.body.toNat else []
end Go.Proofs.YthidbmeaccpjdaaGreatDoor
