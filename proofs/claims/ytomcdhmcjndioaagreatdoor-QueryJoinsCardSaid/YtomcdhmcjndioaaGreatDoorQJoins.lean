/- Layer 37: the walk of the law QueryJoins (printed by gen_qjoins.py). -/
import Derived.Test.YtomcdhmcjndioaaGreatDoorQSml
import Derived.Test.YtomcdhmcjndioaaGreatDoorM03
namespace Go.Proofs.YtomcdhmcjndioaaGreatDoor
open Go.RowKit
set_option linter.unusedVariables false

theorem int_ne3 {a b : Int} (h : ¬ a = b) : (a == b) = false ∧ (a != b) = true ∧ ¬ a = b := ⟨by simpa using h, by simpa using h, h⟩
theorem raws_two (W : World) (r1 r2 : RawQ) (k1 : RawOk r1) (k2 : RawOk r2) : Raws (W.alloc (.cells #[.int .i64 r1.op, .int .i64 r1.fld, .string (ba r1.text), .int .i64 r1.n, .slice r1.kids.1 r1.kids.2.1 r1.kids.2.2, .int .i64 r2.op, .int .i64 r2.fld, .string (ba r2.text), .int .i64 r2.n, .slice r2.kids.1 r2.kids.2.1 r2.kids.2.2] 25)) (W.heap.size + 1) (some ⟨W.heap.size, 0, none⟩) 2 [r1, r2] := by
  refine ⟨rfl, fun k hk => ?_⟩
  have h := (MapKept.heap_alloc W (.cells #[.int .i64 r1.op, .int .i64 r1.fld, .string (ba r1.text), .int .i64 r1.n, .slice r1.kids.1 r1.kids.2.1 r1.kids.2.2, .int .i64 r2.op, .int .i64 r2.fld, .string (ba r2.text), .int .i64 r2.n, .slice r2.kids.1 r2.kids.2.1 r2.kids.2.2] 25)).1
  match k, hk with
  | 0, _ => exact ⟨_, rfl, Nat.lt_succ_self _, (Lib.cell_of_heap h 0).trans rfl, (Lib.cell_of_heap h 1).trans rfl, (Lib.cell_of_heap h 2).trans rfl, (Lib.cell_of_heap h 3).trans rfl, (Lib.cell_of_heap h 4).trans rfl, k1⟩
  | 1, _ => exact ⟨_, rfl, Nat.lt_succ_self _, (Lib.cell_of_heap h 5).trans rfl, (Lib.cell_of_heap h 6).trans rfl, (Lib.cell_of_heap h 7).trans rfl, (Lib.cell_of_heap h 8).trans rfl, (Lib.cell_of_heap h 9).trans rfl, k2⟩
theorem raws_one (W : World) (r1 : RawQ) (k1 : RawOk r1) : Raws (W.alloc (.cells #[.int .i64 r1.op, .int .i64 r1.fld, .string (ba r1.text), .int .i64 r1.n, .slice r1.kids.1 r1.kids.2.1 r1.kids.2.2] 25)) (W.heap.size + 1) (some ⟨W.heap.size, 0, none⟩) 1 [r1] := by
  refine ⟨rfl, fun k hk => ?_⟩
  have h := (MapKept.heap_alloc W (.cells #[.int .i64 r1.op, .int .i64 r1.fld, .string (ba r1.text), .int .i64 r1.n, .slice r1.kids.1 r1.kids.2.1 r1.kids.2.2] 25)).1
  match k, hk with
  | 0, _ => exact ⟨_, rfl, Nat.lt_succ_self _, (Lib.cell_of_heap h 0).trans rfl, (Lib.cell_of_heap h 1).trans rfl, (Lib.cell_of_heap h 2).trans rfl, (Lib.cell_of_heap h 3).trans rfl, (Lib.cell_of_heap h 4).trans rfl, k1⟩
theorem two_deep (W : World) (op : Int) (r1 r2 : RawQ) (q1 q2 : Qry) (k1 : RawOk r1) (k2 : RawOk r2) (h1 : QDeep W (fun _ => True) r1 q1) (h2 : QDeep W (fun _ => True) r2 q2) : QDeep (W.alloc (.cells #[.int .i64 r1.op, .int .i64 r1.fld, .string (ba r1.text), .int .i64 r1.n, .slice r1.kids.1 r1.kids.2.1 r1.kids.2.2, .int .i64 r2.op, .int .i64 r2.fld, .string (ba r2.text), .int .i64 r2.n, .slice r2.kids.1 r2.kids.2.1 r2.kids.2.2] 25)) (fun _ => True) ⟨op, 0, [], 0, (some ⟨W.heap.size, 0, none⟩, 2, 2)⟩ (.mk op 0 [] 0 [q1, q2]) := by
  have hb : Below W.heap.size W (W.alloc (.cells #[.int .i64 r1.op, .int .i64 r1.fld, .string (ba r1.text), .int .i64 r1.n, .slice r1.kids.1 r1.kids.2.1 r1.kids.2.2, .int .i64 r2.op, .int .i64 r2.fld, .string (ba r2.text), .int .i64 r2.n, .slice r2.kids.1 r2.kids.2.1 r2.kids.2.2] 25)) := (Below.refl _ _).alloc (Nat.le_refl _) _
  refine .mk (by rw [World.size_alloc]; exact raws_two W r1 r2 k1 k2) (fun _ _ _ => trivial) rfl (Nat.le_refl _) (by unfold maxLen; omega) (fun i a b => ?_)
  match i, a with
  | 0, _ => exact h1.bel hb
  | 1, _ => exact h2.bel hb
theorem one_deep (W : World) (op : Int) (r1 : RawQ) (q1 : Qry) (k1 : RawOk r1) (h1 : QDeep W (fun _ => True) r1 q1) : QDeep (W.alloc (.cells #[.int .i64 r1.op, .int .i64 r1.fld, .string (ba r1.text), .int .i64 r1.n, .slice r1.kids.1 r1.kids.2.1 r1.kids.2.2] 25)) (fun _ => True) ⟨op, 0, [], 0, (some ⟨W.heap.size, 0, none⟩, 1, 1)⟩ (.mk op 0 [] 0 [q1]) := by
  have hb : Below W.heap.size W (W.alloc (.cells #[.int .i64 r1.op, .int .i64 r1.fld, .string (ba r1.text), .int .i64 r1.n, .slice r1.kids.1 r1.kids.2.1 r1.kids.2.2] 25)) := (Below.refl _ _).alloc (Nat.le_refl _) _
  refine .mk (by rw [World.size_alloc]; exact raws_one W r1 k1) (fun _ _ _ => trivial) rfl (Nat.le_refl _) (by unfold maxLen; omega) (fun i a b => ?_)
  match i, a with
  | 0, _ => exact h1.bel hb
theorem box_kept {w1 w2 : World} {ob : Obj} (h : Below (w1.alloc ob).heap.size (w1.alloc ob) w2) : w2.heap[w1.heap.size]? = some ob := (h.block _ (by simp)).trans (MapKept.heap_alloc w1 ob).1
theorem same_true (w : World) (r1 r2 : RawQ) (q : Qry) (h1 : QDeep w (fun _ => True) r1 q) (h2 : QDeep w (fun _ => True) r2 q) : Calls Tryz.prog 9 #[r1.val, r2.val] w (SmPost w true) := by
  have h := qsame_any q w r1 r2 q h1 h2
  rw [eqQ_true.2 rfl] at h
  exact h
theorem deep_op {w : World} {P : Nat → Prop} {o f n : Int} {t : List UInt8} {A : Option Addr} {m c : Nat} {q : Qry} (h : QDeep w P ⟨o, f, t, n, (A, m, c)⟩ q) : q.op = o := by
  obtain ⟨kids, raws, e, _⟩ := h.open_
  rw [e]
  rfl
set_option maxRecDepth 100000 in
set_option maxHeartbeats 4000000 in
theorem qjoins_any (a b : List UInt8) (w : World) (ha : a.length ≤ 9223372036854775807) (hb : b.length ≤ 9223372036854775807) (ht : QTabs w) (hp : PowTab w) :
    Calls Tryz.prog 4 #[.string (ba a), .string (ba b)] w (SmlPost w) := by
  have HSM := Lib.hid (qsmall_true w ht hp)
  have HT := Lib.hid ht
  unfold SmlPost at HSM
  obtain ⟨la, hla⟩ : ∃ n, a.length = n := ⟨_, rfl⟩
  obtain ⟨lb, hlb⟩ : ∃ n, b.length = n := ⟨_, rfl⟩
  obtain ⟨A, hA⟩ : ∃ s, ba a = s := ⟨_, rfl⟩
  obtain ⟨B, hB⟩ : ∃ s, ba b = s := ⟨_, rfl⟩
  have sA : A.size = la := by rw [← hA, ba_size, hla]
  have sB : B.size = lb := by rw [← hB, ba_size, hlb]
  have siA : (A.size : Int) = la := by rw [sA]
  have siB : (B.size : Int) = lb := by rw [sB]
  have HLA := Lib.hid hla
  have HLB := Lib.hid hlb
  have HSA := Lib.hid sA
  have HSB := Lib.hid sB
  have HEA := Lib.hid hA
  have HEB := Lib.hid hB
  rw [hla] at ha
  rw [hlb] at hb
  rw [hA, hB]
  clear ht hp hla hlb hA hB sA sB
  by_cases l1 : 400 < la
  · have g1 : 400 < (la : Int) := by omega
    go_enter Tryz.func4, Tryz.ntmps4
    go_wp2_with fail
    refine HSM.out.mono ?_
    rintro e w1 ⟨rfl, hb1⟩
    have HB1 := Lib.hid hb1
    clear hb1
    go_wp2
    go_ret
    exact ⟨rfl, HB1.out⟩
  · have g1 : ¬ 400 < (la : Int) := by omega
    by_cases l2 : 400 < lb
    · have g2 : 400 < (lb : Int) := by omega
      go_enter Tryz.func4, Tryz.ntmps4
      go_wp2_with fail
      refine HSM.out.mono ?_
      rintro e w1 ⟨rfl, hb1⟩
      have HB1 := Lib.hid hb1
      clear hb1
      go_wp2
      go_ret
      exact ⟨rfl, HB1.out⟩
    · have g2 : ¬ 400 < (lb : Int) := by omega
      have l3 : la ≤ 400 := by omega
      have l4 : lb ≤ 400 := by omega
      have HC2 := Lib.hid (fun W (hW : QTabs W) => (by have h := qparse_any a W (by have := HLA.out; omega) hW; rw [HEA.out] at h; exact h : Calls Tryz.prog 6 #[.string A] W (PaPost W (parseQ a))))
      have HC3 := Lib.hid (fun W (hW : QTabs W) => (by have h := qparse_any b W (by have := HLB.out; omega) hW; rw [HEB.out] at h; exact h : Calls Tryz.prog 6 #[.string B] W (PaPost W (parseQ b))))
      have HSAY := Lib.hid (fun p q n m (h1 : parseQ a = (p, 0, n)) (h2 : parseQ b = (q, 0, m)) (hp : p.op ≠ 1) (hq : q.op ≠ 1) => joins_say (by have := HLA.out; omega) (by have := HLB.out; omega) h1 h2 hp hq)
      obtain ⟨pa, hpa⟩ : ∃ x, parseQ a = x := ⟨_, rfl⟩
      obtain ⟨pb, hpb⟩ : ∃ x, parseQ b = x := ⟨_, rfl⟩
      rw [hpa] at HC2 HSAY
      rw [hpb] at HC3 HSAY
      clear hpa hpb
      obtain ⟨p, ea, ia⟩ := pa
      obtain ⟨q, eb, ib⟩ := pb
      go_enter Tryz.func4, Tryz.ntmps4
      go_wp2_with fail
      refine HSM.out.mono ?_
      rintro e w1 ⟨rfl, hb1⟩
      have HB1 := Lib.hid hb1
      clear hb1
      go_wp2_with fail
      refine (HC2.out w1 (HT.out.below HB1.out)).mono ?_
      rintro e w2 ⟨r2, rfl, hq2, hk2, hb2⟩
      have HB2 := Lib.hid (Below.trans HB1.out (hb2.mono (Below.size HB1.out)))
      obtain ⟨o2, f2, t2, n2, A2, m2, c2, rfl⟩ := agg_open (r := r2)
      have HQ2 := Lib.hid (show QDeep w2 (fun _ => True) ⟨o2, f2, t2, n2, (A2, m2, c2)⟩ _ from QDeep.more hq2 fun _ _ => trivial)
      have HK2 := Lib.hid hk2
      obtain ⟨ob2, hob2⟩ : ∃ o : Obj, .cells #[.int .i64 o2, .int .i64 f2, .string (ba t2), .int .i64 n2, .slice A2 m2 c2] 25 = o := ⟨_, rfl⟩
      have HOB2 := Lib.hid hob2
      have HA2 := Lib.hid (show Below w.heap.size w (w2.alloc ob2) from HB2.out.alloc HB2.out.size _)
      clear hq2 hk2 hb2 hob2
      unfold RawQ.val
      dsimp only
      go_wp2_with fail
      rw [HOB2.out]
      refine (HC3.out (w2.alloc ob2) (HT.out.below HA2.out)).mono ?_
      rintro e w3 ⟨r3, rfl, hq3, hk3, hb3⟩
      have HB3 := Lib.hid (Below.trans HA2.out (hb3.mono (Below.size HA2.out)))
      have HX2 := Lib.hid (box_kept hb3)
      have HS2 := Lib.hid (show Below w2.heap.size w2 w3 from ((Below.refl w2.heap.size w2).alloc (Nat.le_refl _) ob2).trans (hb3.mono (by rw [World.size_alloc]; omega)))
      obtain ⟨o3, f3, t3, n3, A3, m3, c3, rfl⟩ := agg_open (r := r3)
      have HQ3 := Lib.hid (show QDeep w3 (fun _ => True) ⟨o3, f3, t3, n3, (A3, m3, c3)⟩ _ from QDeep.more hq3 fun _ _ => trivial)
      have HK3 := Lib.hid hk3
      obtain ⟨ob3, hob3⟩ : ∃ o : Obj, .cells #[.int .i64 o3, .int .i64 f3, .string (ba t3), .int .i64 n3, .slice A3 m3 c3] 25 = o := ⟨_, rfl⟩
      have HOB3 := Lib.hid hob3
      have HA3 := Lib.hid (show Below w.heap.size w (w3.alloc ob3) from HB3.out.alloc HB3.out.size _)
      clear hq3 hk3 hb3 hob3
      unfold RawQ.val
      dsimp only
      have x2 := HX2.out
      rw [← HOB2.out] at x2
      have HW2 := Lib.hid (show WBox w3 w2.heap.size ⟨o2, f2, t2, n2, (A2, m2, c2)⟩ from x2)
      obtain ⟨x0, _, _, _, _, l2⟩ := HW2.out.cells
      clear x2
      by_cases v1 : (ea : Int) = 0
      · by_cases v2 : (eb : Int) = 0
        · have ea0 : ea = 0 := by omega
          have eb0 : eb = 0 := by omega
          subst ea0 eb0
          clear v1 v2
          by_cases v3 : o2 = 1
          · subst v3
            go_wp2
            go_ret
            exact ⟨rfl, by rw [HOB3.out]; exact HA3.out⟩
          · obtain ⟨d1, d2, d3⟩ := int_ne3 v3
            by_cases v4 : o3 = 1
            · subst v4
              go_wp2
              go_ret
              exact ⟨rfl, by rw [HOB3.out]; exact HA3.out⟩
            · obtain ⟨d4, d5, d6⟩ := int_ne3 v4
              have hpo : p.op ≠ 1 := by rw [deep_op HQ2.out]; exact v3
              have hqo : q.op ≠ 1 := by rw [deep_op HQ3.out]; exact v4
              obtain ⟨one, two, three, four, g, h, j, k1, k2, k3, k4, s1, s2, s3, s4, hg, hh, hj, i1, i2, i3, i4, i5⟩ := HSAY.out p q ia ib rfl rfl hpo hqo
              have e1 : (⟨#[40]⟩ : ByteArray) ++ A = ba ([40] ++ a) := by rw [← HEA.out]; exact ba_append [40] a
              have e2 : ba ([40] ++ a) ++ (⟨#[32, 41]⟩ : ByteArray) = ba ([40] ++ (a ++ [32, 41])) := (ba_append ([40] ++ a) [32, 41]).trans (by rw [List.append_assoc])
              have e3 : ba ([40] ++ a) ++ (⟨#[41, 32, 40]⟩ : ByteArray) = ba ([40] ++ (a ++ [41, 32, 40])) := (ba_append ([40] ++ a) [41, 32, 40]).trans (by rw [List.append_assoc])
              have e4 : ba ([40] ++ (a ++ [41, 32, 40])) ++ B = ba ([40] ++ (a ++ ([41, 32, 40] ++ b))) := by rw [← HEB.out, ba_append]; simp only [List.append_assoc]
              have e5 : ba ([40] ++ (a ++ ([41, 32, 40] ++ b))) ++ (⟨#[41]⟩ : ByteArray) = ba ([40] ++ (a ++ ([41, 32, 40] ++ (b ++ [41])))) := (ba_append _ [41]).trans (by simp only [List.append_assoc])
              have e6 : ba ([40] ++ a) ++ (⟨#[41, 79, 82, 32, 40]⟩ : ByteArray) = ba ([40] ++ (a ++ [41, 79, 82, 32, 40])) := (ba_append ([40] ++ a) [41, 79, 82, 32, 40]).trans (by rw [List.append_assoc])
              have e7 : ba ([40] ++ (a ++ [41, 79, 82, 32, 40])) ++ B = ba ([40] ++ (a ++ ([41, 79, 82, 32, 40] ++ b))) := by rw [← HEB.out, ba_append]; simp only [List.append_assoc]
              have e8 : ba ([40] ++ (a ++ ([41, 79, 82, 32, 40] ++ b))) ++ (⟨#[41]⟩ : ByteArray) = ba ([40] ++ (a ++ ([41, 79, 82, 32, 40] ++ (b ++ [41])))) := (ba_append _ [41]).trans (by simp only [List.append_assoc])
              have e9 : (⟨#[45, 40]⟩ : ByteArray) ++ A = ba ([45, 40] ++ a) := by rw [← HEA.out]; exact ba_append [45, 40] a
              have e10 : ba ([45, 40] ++ a) ++ (⟨#[41]⟩ : ByteArray) = ba ([45, 40] ++ (a ++ [41])) := (ba_append ([45, 40] ++ a) [41]).trans (by rw [List.append_assoc])
              have q1 := ba_size ([40] ++ a)
              have q2 := ba_size ([40] ++ (a ++ [41, 32, 40]))
              have q3 := ba_size ([40] ++ (a ++ ([41, 32, 40] ++ b)))
              have q4 := ba_size ([40] ++ (a ++ [41, 79, 82, 32, 40]))
              have q5 := ba_size ([40] ++ (a ++ ([41, 79, 82, 32, 40] ++ b)))
              have q6 := ba_size ([45, 40] ++ a)
              simp only [List.length_append, List.length_cons, List.length_nil, HLA.out, HLB.out] at q1 q2 q3 q4 q5 q6
              have hC4 := fun W (hW : QTabs W) => qparse_any ([40] ++ (a ++ [32, 41])) W (by simp only [List.length_append, List.length_cons, List.length_nil, HLA.out]; omega) hW
              have hC5 := fun W (hW : QTabs W) => qparse_any ([40] ++ (a ++ ([41, 32, 40] ++ (b ++ [41])))) W (by simp only [List.length_append, List.length_cons, List.length_nil, HLA.out, HLB.out]; omega) hW
              have hC6 := fun W (hW : QTabs W) => qparse_any ([40] ++ (a ++ ([41, 79, 82, 32, 40] ++ (b ++ [41])))) W (by simp only [List.length_append, List.length_cons, List.length_nil, HLA.out, HLB.out]; omega) hW
              have hC7 := fun W (hW : QTabs W) => qparse_any ([45, 40] ++ (a ++ [41])) W (by simp only [List.length_append, List.length_cons, List.length_nil, HLA.out]; omega) hW
              simp only [s1] at hC4
              simp only [s2] at hC5
              simp only [s3] at hC6
              simp only [s4] at hC7
              obtain ⟨X1, hX1⟩ : ∃ s, ba ([40] ++ a) = s := ⟨_, rfl⟩
              simp only [hX1] at e1 e2 e3 e6 q1
              clear hX1
              obtain ⟨X2, hX2⟩ : ∃ s, ba ([40] ++ (a ++ [41, 32, 40])) = s := ⟨_, rfl⟩
              simp only [hX2] at e3 e4 q2
              clear hX2
              obtain ⟨X3, hX3⟩ : ∃ s, ba ([40] ++ (a ++ ([41, 32, 40] ++ b))) = s := ⟨_, rfl⟩
              simp only [hX3] at e4 e5 q3
              clear hX3
              obtain ⟨X4, hX4⟩ : ∃ s, ba ([40] ++ (a ++ [41, 79, 82, 32, 40])) = s := ⟨_, rfl⟩
              simp only [hX4] at e6 e7 q4
              clear hX4
              obtain ⟨X5, hX5⟩ : ∃ s, ba ([40] ++ (a ++ ([41, 79, 82, 32, 40] ++ b))) = s := ⟨_, rfl⟩
              simp only [hX5] at e7 e8 q5
              clear hX5
              obtain ⟨X6, hX6⟩ : ∃ s, ba ([45, 40] ++ a) = s := ⟨_, rfl⟩
              simp only [hX6] at e9 e10 q6
              clear hX6
              obtain ⟨S1, hS1⟩ : ∃ s, ba ([40] ++ (a ++ [32, 41])) = s := ⟨_, rfl⟩
              simp only [hS1] at e2 hC4
              clear hS1
              obtain ⟨S2, hS2⟩ : ∃ s, ba ([40] ++ (a ++ ([41, 32, 40] ++ (b ++ [41])))) = s := ⟨_, rfl⟩
              simp only [hS2] at e5 hC5
              clear hS2
              obtain ⟨S3, hS3⟩ : ∃ s, ba ([40] ++ (a ++ ([41, 79, 82, 32, 40] ++ (b ++ [41])))) = s := ⟨_, rfl⟩
              simp only [hS3] at e8 hC6
              clear hS3
              obtain ⟨S4, hS4⟩ : ∃ s, ba ([45, 40] ++ (a ++ [41])) = s := ⟨_, rfl⟩
              simp only [hS4] at e10 hC7
              clear hS4
              have HC4 := Lib.hid hC4
              have HC5 := Lib.hid hC5
              have HC6 := Lib.hid hC6
              have HC7 := Lib.hid hC7
              have HI1 := Lib.hid i1
              have HI2 := Lib.hid i2
              have HI3 := Lib.hid i3
              have HI4 := Lib.hid i4
              have HI5 := Lib.hid i5
              have HG := Lib.hid hg
              have HH := Lib.hid hh
              have HJ := Lib.hid hj
              have u1 : ¬ 9223372036854775807 < 1 + A.size := by have := HSA.out; omega
              have u2 : ¬ 9223372036854775807 < X1.size + 2 := by omega
              have u3 : ¬ 9223372036854775807 < X1.size + 3 := by omega
              have u4 : ¬ 9223372036854775807 < X2.size + B.size := by have := HSB.out; omega
              have u5 : ¬ 9223372036854775807 < X3.size + 1 := by omega
              have u6 : ¬ 9223372036854775807 < X1.size + 5 := by omega
              have u7 : ¬ 9223372036854775807 < X4.size + B.size := by have := HSB.out; omega
              have u8 : ¬ 9223372036854775807 < X5.size + 1 := by omega
              have u9 : ¬ 9223372036854775807 < 2 + A.size := by have := HSA.out; omega
              have u10 : ¬ 9223372036854775807 < X6.size + 1 := by omega
              clear hC4 hC5 hC6 hC7 i1 i2 i3 i4 i5 hg hh hj s1 s2 s3 s4 q1 q2 q3 q4 q5 q6 hpo hqo HSAY HC2 HC3 siA siB
              go_wp2_with fail
              rw [HOB3.out]
              refine (HC4.out (w3.alloc ob3) (HT.out.below HA3.out)).mono ?_
              rintro e w4 ⟨r4, rfl, hq4, hk4, hb4⟩
              have HB4 := Lib.hid (Below.trans HA3.out (hb4.mono (Below.size HA3.out)))
              have HX3 := Lib.hid (box_kept hb4)
              have HS3 := Lib.hid (show Below w3.heap.size w3 w4 from ((Below.refl w3.heap.size w3).alloc (Nat.le_refl _) ob3).trans (hb4.mono (by rw [World.size_alloc]; omega)))
              obtain ⟨o4, f4, t4, n4, A4, m4, c4, rfl⟩ := agg_open (r := r4)
              have HQ4 := Lib.hid (show QDeep w4 (fun _ => True) ⟨o4, f4, t4, n4, (A4, m4, c4)⟩ _ from QDeep.more hq4 fun _ _ => trivial)
              have HK4 := Lib.hid hk4
              obtain ⟨ob4, hob4⟩ : ∃ o : Obj, .cells #[.int .i64 o4, .int .i64 f4, .string (ba t4), .int .i64 n4, .slice A4 m4 c4] 25 = o := ⟨_, rfl⟩
              have HOB4 := Lib.hid hob4
              have HA4 := Lib.hid (show Below w.heap.size w (w4.alloc ob4) from HB4.out.alloc HB4.out.size _)
              clear hq4 hk4 hb4 hob4
              unfold RawQ.val
              dsimp only
              go_wp2_with fail
              rw [HOB4.out]
              refine (HC5.out (w4.alloc ob4) (HT.out.below HA4.out)).mono ?_
              rintro e w5 ⟨r5, rfl, hq5, hk5, hb5⟩
              have HB5 := Lib.hid (Below.trans HA4.out (hb5.mono (Below.size HA4.out)))
              have HX4 := Lib.hid (box_kept hb5)
              have HS4 := Lib.hid (show Below w4.heap.size w4 w5 from ((Below.refl w4.heap.size w4).alloc (Nat.le_refl _) ob4).trans (hb5.mono (by rw [World.size_alloc]; omega)))
              obtain ⟨o5, f5, t5, n5, A5, m5, c5, rfl⟩ := agg_open (r := r5)
              have HQ5 := Lib.hid (show QDeep w5 (fun _ => True) ⟨o5, f5, t5, n5, (A5, m5, c5)⟩ _ from QDeep.more hq5 fun _ _ => trivial)
              have HK5 := Lib.hid hk5
              obtain ⟨ob5, hob5⟩ : ∃ o : Obj, .cells #[.int .i64 o5, .int .i64 f5, .string (ba t5), .int .i64 n5, .slice A5 m5 c5] 25 = o := ⟨_, rfl⟩
              have HOB5 := Lib.hid hob5
              have HA5 := Lib.hid (show Below w.heap.size w (w5.alloc ob5) from HB5.out.alloc HB5.out.size _)
              clear hq5 hk5 hb5 hob5
              unfold RawQ.val
              dsimp only
              go_wp2_with fail
              rw [HOB5.out]
              refine (HC6.out (w5.alloc ob5) (HT.out.below HA5.out)).mono ?_
              rintro e w6 ⟨r6, rfl, hq6, hk6, hb6⟩
              have HB6 := Lib.hid (Below.trans HA5.out (hb6.mono (Below.size HA5.out)))
              have HX5 := Lib.hid (box_kept hb6)
              have HS5 := Lib.hid (show Below w5.heap.size w5 w6 from ((Below.refl w5.heap.size w5).alloc (Nat.le_refl _) ob5).trans (hb6.mono (by rw [World.size_alloc]; omega)))
              obtain ⟨o6, f6, t6, n6, A6, m6, c6, rfl⟩ := agg_open (r := r6)
              have HQ6 := Lib.hid (show QDeep w6 (fun _ => True) ⟨o6, f6, t6, n6, (A6, m6, c6)⟩ _ from QDeep.more hq6 fun _ _ => trivial)
              have HK6 := Lib.hid hk6
              obtain ⟨ob6, hob6⟩ : ∃ o : Obj, .cells #[.int .i64 o6, .int .i64 f6, .string (ba t6), .int .i64 n6, .slice A6 m6 c6] 25 = o := ⟨_, rfl⟩
              have HOB6 := Lib.hid hob6
              have HA6 := Lib.hid (show Below w.heap.size w (w6.alloc ob6) from HB6.out.alloc HB6.out.size _)
              clear hq6 hk6 hb6 hob6
              unfold RawQ.val
              dsimp only
              go_wp2_with fail
              rw [HOB6.out]
              refine (HC7.out (w6.alloc ob6) (HT.out.below HA6.out)).mono ?_
              rintro e w7 ⟨r7, rfl, hq7, hk7, hb7⟩
              have HB7 := Lib.hid (Below.trans HA6.out (hb7.mono (Below.size HA6.out)))
              have HX6 := Lib.hid (box_kept hb7)
              have HS6 := Lib.hid (show Below w6.heap.size w6 w7 from ((Below.refl w6.heap.size w6).alloc (Nat.le_refl _) ob6).trans (hb7.mono (by rw [World.size_alloc]; omega)))
              obtain ⟨o7, f7, t7, n7, A7, m7, c7, rfl⟩ := agg_open (r := r7)
              have HQ7 := Lib.hid (show QDeep w7 (fun _ => True) ⟨o7, f7, t7, n7, (A7, m7, c7)⟩ _ from QDeep.more hq7 fun _ _ => trivial)
              have HK7 := Lib.hid hk7
              obtain ⟨ob7, hob7⟩ : ∃ o : Obj, .cells #[.int .i64 o7, .int .i64 f7, .string (ba t7), .int .i64 n7, .slice A7 m7 c7] 25 = o := ⟨_, rfl⟩
              have HOB7 := Lib.hid hob7
              have HA7 := Lib.hid (show Below w.heap.size w (w7.alloc ob7) from HB7.out.alloc HB7.out.size _)
              clear hq7 hk7 hb7 hob7
              unfold RawQ.val
              dsimp only
              clear x0 l2 e1 e2 e3 e4 e5 e6 e7 e8 e9 e10 u1 u2 u3 u4 u5 u6 u7 u8 u9 u10 HC4 HC5 HC6 HC7
              have C6 : Below w6.heap.size w6 w7 := HS6.out
              have C5 : Below w5.heap.size w5 w7 := HS5.out.trans (C6.mono HS5.out.size)
              have C4 : Below w4.heap.size w4 w7 := HS4.out.trans (C5.mono HS4.out.size)
              have C3 : Below w3.heap.size w3 w7 := HS3.out.trans (C4.mono HS3.out.size)
              have C2 : Below w2.heap.size w2 w7 := HS2.out.trans (C3.mono HS2.out.size)
              have z2 := HX2.out
              rw [← HOB2.out] at z2
              have HZ2 := Lib.hid (show WBox w7 w2.heap.size ⟨o2, f2, t2, n2, (A2, m2, c2)⟩ from (C3.block _ (heap_lt z2)).trans z2)
              have HD2 := Lib.hid (show QDeep w7 (fun _ => True) ⟨o2, f2, t2, n2, (A2, m2, c2)⟩ p from HQ2.out.bel C2)
              have z3 := HX3.out
              rw [← HOB3.out] at z3
              have HZ3 := Lib.hid (show WBox w7 w3.heap.size ⟨o3, f3, t3, n3, (A3, m3, c3)⟩ from (C4.block _ (heap_lt z3)).trans z3)
              have HD3 := Lib.hid (show QDeep w7 (fun _ => True) ⟨o3, f3, t3, n3, (A3, m3, c3)⟩ q from HQ3.out.bel C3)
              have z4 := HX4.out
              rw [← HOB4.out] at z4
              have HZ4 := Lib.hid (show WBox w7 w4.heap.size ⟨o4, f4, t4, n4, (A4, m4, c4)⟩ from (C5.block _ (heap_lt z4)).trans z4)
              have HD4 := Lib.hid (show QDeep w7 (fun _ => True) ⟨o4, f4, t4, n4, (A4, m4, c4)⟩ one from HQ4.out.bel C4)
              have z5 := HX5.out
              rw [← HOB5.out] at z5
              have HZ5 := Lib.hid (show WBox w7 w5.heap.size ⟨o5, f5, t5, n5, (A5, m5, c5)⟩ from (C6.block _ (heap_lt z5)).trans z5)
              have HD5 := Lib.hid (show QDeep w7 (fun _ => True) ⟨o5, f5, t5, n5, (A5, m5, c5)⟩ two from HQ5.out.bel C5)
              have z6 := HX6.out
              rw [← HOB6.out] at z6
              have HZ6 := Lib.hid (show WBox w7 w6.heap.size ⟨o6, f6, t6, n6, (A6, m6, c6)⟩ from z6)
              have HD6 := Lib.hid (show QDeep w7 (fun _ => True) ⟨o6, f6, t6, n6, (A6, m6, c6)⟩ three from HQ6.out.bel C6)
              have HD7 := Lib.hid (show QDeep w7 (fun _ => True) ⟨o7, f7, t7, n7, (A7, m7, c7)⟩ four from HQ7.out)
              obtain ⟨y20, y21, y22, y23, y24, y2l⟩ := (HZ2.out).cells
              obtain ⟨y30, y31, y32, y33, y34, y3l⟩ := (HZ3.out).cells
              obtain ⟨y40, y41, y42, y43, y44, y4l⟩ := (HZ4.out).cells
              obtain ⟨y50, y51, y52, y53, y54, y5l⟩ := (HZ5.out).cells
              obtain ⟨y60, y61, y62, y63, y64, y6l⟩ := (HZ6.out).cells
              clear z2 z3 z4 z5 z6 C2 C3 C4 C5 C6
              have hcases : (g = 0 ∧ h = 0 ∧ j = 0) ∨ (g = 0 ∧ h = 0 ∧ j = 10) ∨ (g = 0 ∧ h = 10 ∧ j = 0) ∨ (g = 0 ∧ h = 10 ∧ j = 10) ∨ (g = 10 ∧ h = 10 ∧ j = 10) := by
                have h1 := HI1.out
                have h3 := HI3.out
                rcases HG.out with e | e <;> rcases HH.out with f | f <;> rcases HJ.out with y | y <;> subst e <;> subst f <;> subst y <;> simp_all
              rcases hcases with ⟨rfl, rfl, rfl⟩ | ⟨rfl, rfl, rfl⟩ | ⟨rfl, rfl, rfl⟩ | ⟨rfl, rfl, rfl⟩ | ⟨rfl, rfl, rfl⟩
              · have hb7 : Below w7.heap.size w7 (w7.alloc ob7) := (Below.refl _ _).alloc (Nat.le_refl _) _
                have hd1 := HD4.out.bel hb7
                rw [HI2.out rfl] at hd1
                have HSE := Lib.hid (same_true _ _ _ _ hd1 (HD2.out.bel hb7))
                have HB7A := Lib.hid hb7
                clear hd1 hb7
                go_wp2_with fail
                rw [HOB7.out]
                refine HSE.out.mono ?_
                rintro e w8 ⟨rfl, hb8⟩
                have H8 := Lib.hid (show Below w7.heap.size w7 w8 from HB7A.out.trans (hb8.mono HB7A.out.size))
                have HB8 := Lib.hid (HB7.out.trans (H8.out.mono HB7.out.size))
                have e8 := box_kept hb8
                rw [← HOB7.out] at e8
                have HE8 := Lib.hid (show WBox w8 w7.heap.size ⟨o7, f7, t7, n7, (A7, m7, c7)⟩ from e8)
                clear hb8 e8 HSE
                clear y20 y21 y22 y23 y24 y2l y30 y31 y32 y33 y34 y3l y40 y41 y42 y43 y44 y4l y50 y51 y52 y53 y54 y5l y60 y61 y62 y63 y64 y6l
                obtain ⟨y20, y21, y22, y23, y24, y2l⟩ := (show WBox w8 w2.heap.size ⟨o2, f2, t2, n2, (A2, m2, c2)⟩ from (H8.out.block _ (heap_lt HZ2.out)).trans HZ2.out).cells
                obtain ⟨y30, y31, y32, y33, y34, y3l⟩ := (show WBox w8 w3.heap.size ⟨o3, f3, t3, n3, (A3, m3, c3)⟩ from (H8.out.block _ (heap_lt HZ3.out)).trans HZ3.out).cells
                obtain ⟨y40, y41, y42, y43, y44, y4l⟩ := (show WBox w8 w4.heap.size ⟨o4, f4, t4, n4, (A4, m4, c4)⟩ from (H8.out.block _ (heap_lt HZ4.out)).trans HZ4.out).cells
                obtain ⟨y50, y51, y52, y53, y54, y5l⟩ := (show WBox w8 w5.heap.size ⟨o5, f5, t5, n5, (A5, m5, c5)⟩ from (H8.out.block _ (heap_lt HZ5.out)).trans HZ5.out).cells
                obtain ⟨y60, y61, y62, y63, y64, y6l⟩ := (show WBox w8 w6.heap.size ⟨o6, f6, t6, n6, (A6, m6, c6)⟩ from (H8.out.block _ (heap_lt HZ6.out)).trans HZ6.out).cells
                obtain ⟨y70, y71, y72, y73, y74, y7l⟩ := (HE8.out).cells
                obtain ⟨oc9, hoc⟩ : ∃ o : Obj, .cells #[.int .i64 o2, .int .i64 f2, .string (ba t2), .int .i64 n2, .slice A2 m2 c2, .int .i64 o3, .int .i64 f3, .string (ba t3), .int .i64 n3, .slice A3 m3 c3] 25 = o := ⟨_, rfl⟩
                have HOC9 := Lib.hid hoc
                have hd2 := two_deep w8 11 ⟨o2, f2, t2, n2, (A2, m2, c2)⟩ ⟨o3, f3, t3, n3, (A3, m3, c3)⟩ p q HK2.out HK3.out (HD2.out.bel H8.out) (HD3.out.bel H8.out)
                dsimp only at hd2
                rw [hoc] at hd2
                have hba : Below w8.heap.size w8 (w8.alloc oc9) := (Below.refl _ _).alloc (Nat.le_refl _) _
                have hd1 := (HD5.out.bel H8.out).bel hba
                rw [(HI4.out (by first | trivial | rfl)).1] at hd1
                have HSE := Lib.hid (same_true _ _ _ _ hd1 hd2)
                clear hd1 hd2 hba hoc
                go_wp2_with fail
                rw [HOC9.out]
                refine HSE.out.mono ?_
                rintro e w9 ⟨rfl, hb9⟩
                have H9 := Lib.hid (H8.out.trans (Below.mono (show Below w8.heap.size w8 w9 from ((Below.refl w8.heap.size w8).alloc (Nat.le_refl _) oc9).trans (hb9.mono (by rw [World.size_alloc]; omega))) H8.out.size))
                have HB9 := Lib.hid (HB8.out.trans (Below.mono (show Below w8.heap.size w8 w9 from ((Below.refl w8.heap.size w8).alloc (Nat.le_refl _) oc9).trans (hb9.mono (by rw [World.size_alloc]; omega))) HB8.out.size))
                have HE9 := Lib.hid (show WBox w9 w7.heap.size ⟨o7, f7, t7, n7, (A7, m7, c7)⟩ from ((show Below w8.heap.size w8 w9 from ((Below.refl w8.heap.size w8).alloc (Nat.le_refl _) oc9).trans (hb9.mono (by rw [World.size_alloc]; omega))).block _ (heap_lt HE8.out)).trans HE8.out)
                clear y20 y21 y22 y23 y24 y2l y30 y31 y32 y33 y34 y3l y40 y41 y42 y43 y44 y4l y50 y51 y52 y53 y54 y5l y60 y61 y62 y63 y64 y6l y70 y71 y72 y73 y74 y7l
                obtain ⟨y20, y21, y22, y23, y24, y2l⟩ := (show WBox w9 w2.heap.size ⟨o2, f2, t2, n2, (A2, m2, c2)⟩ from (H9.out.block _ (heap_lt HZ2.out)).trans HZ2.out).cells
                obtain ⟨y30, y31, y32, y33, y34, y3l⟩ := (show WBox w9 w3.heap.size ⟨o3, f3, t3, n3, (A3, m3, c3)⟩ from (H9.out.block _ (heap_lt HZ3.out)).trans HZ3.out).cells
                obtain ⟨y40, y41, y42, y43, y44, y4l⟩ := (show WBox w9 w4.heap.size ⟨o4, f4, t4, n4, (A4, m4, c4)⟩ from (H9.out.block _ (heap_lt HZ4.out)).trans HZ4.out).cells
                obtain ⟨y50, y51, y52, y53, y54, y5l⟩ := (show WBox w9 w5.heap.size ⟨o5, f5, t5, n5, (A5, m5, c5)⟩ from (H9.out.block _ (heap_lt HZ5.out)).trans HZ5.out).cells
                obtain ⟨y60, y61, y62, y63, y64, y6l⟩ := (show WBox w9 w6.heap.size ⟨o6, f6, t6, n6, (A6, m6, c6)⟩ from (H9.out.block _ (heap_lt HZ6.out)).trans HZ6.out).cells
                obtain ⟨y70, y71, y72, y73, y74, y7l⟩ := (HE9.out).cells
                clear hb9
                obtain ⟨oc10, hoc⟩ : ∃ o : Obj, .cells #[.int .i64 o2, .int .i64 f2, .string (ba t2), .int .i64 n2, .slice A2 m2 c2, .int .i64 o3, .int .i64 f3, .string (ba t3), .int .i64 n3, .slice A3 m3 c3] 25 = o := ⟨_, rfl⟩
                have HOC10 := Lib.hid hoc
                have hd2 := two_deep w9 12 ⟨o2, f2, t2, n2, (A2, m2, c2)⟩ ⟨o3, f3, t3, n3, (A3, m3, c3)⟩ p q HK2.out HK3.out (HD2.out.bel H9.out) (HD3.out.bel H9.out)
                dsimp only at hd2
                rw [hoc] at hd2
                have hba : Below w9.heap.size w9 (w9.alloc oc10) := (Below.refl _ _).alloc (Nat.le_refl _) _
                have hd1 := (HD6.out.bel H9.out).bel hba
                rw [(HI4.out (by first | trivial | rfl)).2] at hd1
                have HSE := Lib.hid (same_true _ _ _ _ hd1 hd2)
                clear hd1 hd2 hba hoc
                go_wp2_with fail
                rw [HOC10.out]
                refine HSE.out.mono ?_
                rintro e w10 ⟨rfl, hb10⟩
                have H10 := Lib.hid (H9.out.trans (Below.mono (show Below w9.heap.size w9 w10 from ((Below.refl w9.heap.size w9).alloc (Nat.le_refl _) oc10).trans (hb10.mono (by rw [World.size_alloc]; omega))) H9.out.size))
                have HB10 := Lib.hid (HB9.out.trans (Below.mono (show Below w9.heap.size w9 w10 from ((Below.refl w9.heap.size w9).alloc (Nat.le_refl _) oc10).trans (hb10.mono (by rw [World.size_alloc]; omega))) HB9.out.size))
                have HE10 := Lib.hid (show WBox w10 w7.heap.size ⟨o7, f7, t7, n7, (A7, m7, c7)⟩ from ((show Below w9.heap.size w9 w10 from ((Below.refl w9.heap.size w9).alloc (Nat.le_refl _) oc10).trans (hb10.mono (by rw [World.size_alloc]; omega))).block _ (heap_lt HE9.out)).trans HE9.out)
                clear y20 y21 y22 y23 y24 y2l y30 y31 y32 y33 y34 y3l y40 y41 y42 y43 y44 y4l y50 y51 y52 y53 y54 y5l y60 y61 y62 y63 y64 y6l y70 y71 y72 y73 y74 y7l
                obtain ⟨y20, y21, y22, y23, y24, y2l⟩ := (show WBox w10 w2.heap.size ⟨o2, f2, t2, n2, (A2, m2, c2)⟩ from (H10.out.block _ (heap_lt HZ2.out)).trans HZ2.out).cells
                obtain ⟨y30, y31, y32, y33, y34, y3l⟩ := (show WBox w10 w3.heap.size ⟨o3, f3, t3, n3, (A3, m3, c3)⟩ from (H10.out.block _ (heap_lt HZ3.out)).trans HZ3.out).cells
                obtain ⟨y40, y41, y42, y43, y44, y4l⟩ := (show WBox w10 w4.heap.size ⟨o4, f4, t4, n4, (A4, m4, c4)⟩ from (H10.out.block _ (heap_lt HZ4.out)).trans HZ4.out).cells
                obtain ⟨y50, y51, y52, y53, y54, y5l⟩ := (show WBox w10 w5.heap.size ⟨o5, f5, t5, n5, (A5, m5, c5)⟩ from (H10.out.block _ (heap_lt HZ5.out)).trans HZ5.out).cells
                obtain ⟨y60, y61, y62, y63, y64, y6l⟩ := (show WBox w10 w6.heap.size ⟨o6, f6, t6, n6, (A6, m6, c6)⟩ from (H10.out.block _ (heap_lt HZ6.out)).trans HZ6.out).cells
                obtain ⟨y70, y71, y72, y73, y74, y7l⟩ := (HE10.out).cells
                clear hb10
                obtain ⟨oc11, hoc⟩ : ∃ o : Obj, .cells #[.int .i64 o2, .int .i64 f2, .string (ba t2), .int .i64 n2, .slice A2 m2 c2] 25 = o := ⟨_, rfl⟩
                have HOC11 := Lib.hid hoc
                have hd2 := one_deep w10 13 ⟨o2, f2, t2, n2, (A2, m2, c2)⟩ p HK2.out (HD2.out.bel H10.out)
                dsimp only at hd2
                rw [hoc] at hd2
                have hba : Below w10.heap.size w10 (w10.alloc oc11) := (Below.refl _ _).alloc (Nat.le_refl _) _
                have hd1 := (HD7.out.bel H10.out).bel hba
                rw [HI5.out (by first | trivial | rfl)] at hd1
                have HSE := Lib.hid (same_true _ _ _ _ hd1 hd2)
                have HBA := Lib.hid hba
                clear hd1 hd2 hba hoc
                go_wp2_with fail
                rw [HOC11.out]
                refine HSE.out.mono ?_
                rintro e w11 ⟨rfl, hb11⟩
                have HB11 := Lib.hid (HB10.out.trans ((HBA.out.trans (hb11.mono HBA.out.size)).mono HB10.out.size))
                clear hb11
                go_wp2
                go_ret
                exact ⟨rfl, HB11.out⟩
              · have hb7 : Below w7.heap.size w7 (w7.alloc ob7) := (Below.refl _ _).alloc (Nat.le_refl _) _
                have hd1 := HD4.out.bel hb7
                rw [HI2.out rfl] at hd1
                have HSE := Lib.hid (same_true _ _ _ _ hd1 (HD2.out.bel hb7))
                have HB7A := Lib.hid hb7
                clear hd1 hb7
                go_wp2_with fail
                rw [HOB7.out]
                refine HSE.out.mono ?_
                rintro e w8 ⟨rfl, hb8⟩
                have H8 := Lib.hid (show Below w7.heap.size w7 w8 from HB7A.out.trans (hb8.mono HB7A.out.size))
                have HB8 := Lib.hid (HB7.out.trans (H8.out.mono HB7.out.size))
                have e8 := box_kept hb8
                rw [← HOB7.out] at e8
                have HE8 := Lib.hid (show WBox w8 w7.heap.size ⟨o7, f7, t7, n7, (A7, m7, c7)⟩ from e8)
                clear hb8 e8 HSE
                clear y20 y21 y22 y23 y24 y2l y30 y31 y32 y33 y34 y3l y40 y41 y42 y43 y44 y4l y50 y51 y52 y53 y54 y5l y60 y61 y62 y63 y64 y6l
                obtain ⟨y20, y21, y22, y23, y24, y2l⟩ := (show WBox w8 w2.heap.size ⟨o2, f2, t2, n2, (A2, m2, c2)⟩ from (H8.out.block _ (heap_lt HZ2.out)).trans HZ2.out).cells
                obtain ⟨y30, y31, y32, y33, y34, y3l⟩ := (show WBox w8 w3.heap.size ⟨o3, f3, t3, n3, (A3, m3, c3)⟩ from (H8.out.block _ (heap_lt HZ3.out)).trans HZ3.out).cells
                obtain ⟨y40, y41, y42, y43, y44, y4l⟩ := (show WBox w8 w4.heap.size ⟨o4, f4, t4, n4, (A4, m4, c4)⟩ from (H8.out.block _ (heap_lt HZ4.out)).trans HZ4.out).cells
                obtain ⟨y50, y51, y52, y53, y54, y5l⟩ := (show WBox w8 w5.heap.size ⟨o5, f5, t5, n5, (A5, m5, c5)⟩ from (H8.out.block _ (heap_lt HZ5.out)).trans HZ5.out).cells
                obtain ⟨y60, y61, y62, y63, y64, y6l⟩ := (show WBox w8 w6.heap.size ⟨o6, f6, t6, n6, (A6, m6, c6)⟩ from (H8.out.block _ (heap_lt HZ6.out)).trans HZ6.out).cells
                obtain ⟨y70, y71, y72, y73, y74, y7l⟩ := (HE8.out).cells
                obtain ⟨oc9, hoc⟩ : ∃ o : Obj, .cells #[.int .i64 o2, .int .i64 f2, .string (ba t2), .int .i64 n2, .slice A2 m2 c2, .int .i64 o3, .int .i64 f3, .string (ba t3), .int .i64 n3, .slice A3 m3 c3] 25 = o := ⟨_, rfl⟩
                have HOC9 := Lib.hid hoc
                have hd2 := two_deep w8 11 ⟨o2, f2, t2, n2, (A2, m2, c2)⟩ ⟨o3, f3, t3, n3, (A3, m3, c3)⟩ p q HK2.out HK3.out (HD2.out.bel H8.out) (HD3.out.bel H8.out)
                dsimp only at hd2
                rw [hoc] at hd2
                have hba : Below w8.heap.size w8 (w8.alloc oc9) := (Below.refl _ _).alloc (Nat.le_refl _) _
                have hd1 := (HD5.out.bel H8.out).bel hba
                rw [(HI4.out (by first | trivial | rfl)).1] at hd1
                have HSE := Lib.hid (same_true _ _ _ _ hd1 hd2)
                clear hd1 hd2 hba hoc
                go_wp2_with fail
                rw [HOC9.out]
                refine HSE.out.mono ?_
                rintro e w9 ⟨rfl, hb9⟩
                have H9 := Lib.hid (H8.out.trans (Below.mono (show Below w8.heap.size w8 w9 from ((Below.refl w8.heap.size w8).alloc (Nat.le_refl _) oc9).trans (hb9.mono (by rw [World.size_alloc]; omega))) H8.out.size))
                have HB9 := Lib.hid (HB8.out.trans (Below.mono (show Below w8.heap.size w8 w9 from ((Below.refl w8.heap.size w8).alloc (Nat.le_refl _) oc9).trans (hb9.mono (by rw [World.size_alloc]; omega))) HB8.out.size))
                have HE9 := Lib.hid (show WBox w9 w7.heap.size ⟨o7, f7, t7, n7, (A7, m7, c7)⟩ from ((show Below w8.heap.size w8 w9 from ((Below.refl w8.heap.size w8).alloc (Nat.le_refl _) oc9).trans (hb9.mono (by rw [World.size_alloc]; omega))).block _ (heap_lt HE8.out)).trans HE8.out)
                clear y20 y21 y22 y23 y24 y2l y30 y31 y32 y33 y34 y3l y40 y41 y42 y43 y44 y4l y50 y51 y52 y53 y54 y5l y60 y61 y62 y63 y64 y6l y70 y71 y72 y73 y74 y7l
                obtain ⟨y20, y21, y22, y23, y24, y2l⟩ := (show WBox w9 w2.heap.size ⟨o2, f2, t2, n2, (A2, m2, c2)⟩ from (H9.out.block _ (heap_lt HZ2.out)).trans HZ2.out).cells
                obtain ⟨y30, y31, y32, y33, y34, y3l⟩ := (show WBox w9 w3.heap.size ⟨o3, f3, t3, n3, (A3, m3, c3)⟩ from (H9.out.block _ (heap_lt HZ3.out)).trans HZ3.out).cells
                obtain ⟨y40, y41, y42, y43, y44, y4l⟩ := (show WBox w9 w4.heap.size ⟨o4, f4, t4, n4, (A4, m4, c4)⟩ from (H9.out.block _ (heap_lt HZ4.out)).trans HZ4.out).cells
                obtain ⟨y50, y51, y52, y53, y54, y5l⟩ := (show WBox w9 w5.heap.size ⟨o5, f5, t5, n5, (A5, m5, c5)⟩ from (H9.out.block _ (heap_lt HZ5.out)).trans HZ5.out).cells
                obtain ⟨y60, y61, y62, y63, y64, y6l⟩ := (show WBox w9 w6.heap.size ⟨o6, f6, t6, n6, (A6, m6, c6)⟩ from (H9.out.block _ (heap_lt HZ6.out)).trans HZ6.out).cells
                obtain ⟨y70, y71, y72, y73, y74, y7l⟩ := (HE9.out).cells
                clear hb9
                obtain ⟨oc10, hoc⟩ : ∃ o : Obj, .cells #[.int .i64 o2, .int .i64 f2, .string (ba t2), .int .i64 n2, .slice A2 m2 c2, .int .i64 o3, .int .i64 f3, .string (ba t3), .int .i64 n3, .slice A3 m3 c3] 25 = o := ⟨_, rfl⟩
                have HOC10 := Lib.hid hoc
                have hd2 := two_deep w9 12 ⟨o2, f2, t2, n2, (A2, m2, c2)⟩ ⟨o3, f3, t3, n3, (A3, m3, c3)⟩ p q HK2.out HK3.out (HD2.out.bel H9.out) (HD3.out.bel H9.out)
                dsimp only at hd2
                rw [hoc] at hd2
                have hba : Below w9.heap.size w9 (w9.alloc oc10) := (Below.refl _ _).alloc (Nat.le_refl _) _
                have hd1 := (HD6.out.bel H9.out).bel hba
                rw [(HI4.out (by first | trivial | rfl)).2] at hd1
                have HSE := Lib.hid (same_true _ _ _ _ hd1 hd2)
                clear hd1 hd2 hba hoc
                go_wp2_with fail
                rw [HOC10.out]
                refine HSE.out.mono ?_
                rintro e w10 ⟨rfl, hb10⟩
                have H10 := Lib.hid (H9.out.trans (Below.mono (show Below w9.heap.size w9 w10 from ((Below.refl w9.heap.size w9).alloc (Nat.le_refl _) oc10).trans (hb10.mono (by rw [World.size_alloc]; omega))) H9.out.size))
                have HB10 := Lib.hid (HB9.out.trans (Below.mono (show Below w9.heap.size w9 w10 from ((Below.refl w9.heap.size w9).alloc (Nat.le_refl _) oc10).trans (hb10.mono (by rw [World.size_alloc]; omega))) HB9.out.size))
                have HE10 := Lib.hid (show WBox w10 w7.heap.size ⟨o7, f7, t7, n7, (A7, m7, c7)⟩ from ((show Below w9.heap.size w9 w10 from ((Below.refl w9.heap.size w9).alloc (Nat.le_refl _) oc10).trans (hb10.mono (by rw [World.size_alloc]; omega))).block _ (heap_lt HE9.out)).trans HE9.out)
                clear y20 y21 y22 y23 y24 y2l y30 y31 y32 y33 y34 y3l y40 y41 y42 y43 y44 y4l y50 y51 y52 y53 y54 y5l y60 y61 y62 y63 y64 y6l y70 y71 y72 y73 y74 y7l
                obtain ⟨y20, y21, y22, y23, y24, y2l⟩ := (show WBox w10 w2.heap.size ⟨o2, f2, t2, n2, (A2, m2, c2)⟩ from (H10.out.block _ (heap_lt HZ2.out)).trans HZ2.out).cells
                obtain ⟨y30, y31, y32, y33, y34, y3l⟩ := (show WBox w10 w3.heap.size ⟨o3, f3, t3, n3, (A3, m3, c3)⟩ from (H10.out.block _ (heap_lt HZ3.out)).trans HZ3.out).cells
                obtain ⟨y40, y41, y42, y43, y44, y4l⟩ := (show WBox w10 w4.heap.size ⟨o4, f4, t4, n4, (A4, m4, c4)⟩ from (H10.out.block _ (heap_lt HZ4.out)).trans HZ4.out).cells
                obtain ⟨y50, y51, y52, y53, y54, y5l⟩ := (show WBox w10 w5.heap.size ⟨o5, f5, t5, n5, (A5, m5, c5)⟩ from (H10.out.block _ (heap_lt HZ5.out)).trans HZ5.out).cells
                obtain ⟨y60, y61, y62, y63, y64, y6l⟩ := (show WBox w10 w6.heap.size ⟨o6, f6, t6, n6, (A6, m6, c6)⟩ from (H10.out.block _ (heap_lt HZ6.out)).trans HZ6.out).cells
                obtain ⟨y70, y71, y72, y73, y74, y7l⟩ := (HE10.out).cells
                clear hb10
                go_wp2
                go_ret
                exact ⟨rfl, HB10.out⟩
              · have hb7 : Below w7.heap.size w7 (w7.alloc ob7) := (Below.refl _ _).alloc (Nat.le_refl _) _
                have hd1 := HD4.out.bel hb7
                rw [HI2.out rfl] at hd1
                have HSE := Lib.hid (same_true _ _ _ _ hd1 (HD2.out.bel hb7))
                have HB7A := Lib.hid hb7
                clear hd1 hb7
                go_wp2_with fail
                rw [HOB7.out]
                refine HSE.out.mono ?_
                rintro e w8 ⟨rfl, hb8⟩
                have H8 := Lib.hid (show Below w7.heap.size w7 w8 from HB7A.out.trans (hb8.mono HB7A.out.size))
                have HB8 := Lib.hid (HB7.out.trans (H8.out.mono HB7.out.size))
                have e8 := box_kept hb8
                rw [← HOB7.out] at e8
                have HE8 := Lib.hid (show WBox w8 w7.heap.size ⟨o7, f7, t7, n7, (A7, m7, c7)⟩ from e8)
                clear hb8 e8 HSE
                clear y20 y21 y22 y23 y24 y2l y30 y31 y32 y33 y34 y3l y40 y41 y42 y43 y44 y4l y50 y51 y52 y53 y54 y5l y60 y61 y62 y63 y64 y6l
                obtain ⟨y20, y21, y22, y23, y24, y2l⟩ := (show WBox w8 w2.heap.size ⟨o2, f2, t2, n2, (A2, m2, c2)⟩ from (H8.out.block _ (heap_lt HZ2.out)).trans HZ2.out).cells
                obtain ⟨y30, y31, y32, y33, y34, y3l⟩ := (show WBox w8 w3.heap.size ⟨o3, f3, t3, n3, (A3, m3, c3)⟩ from (H8.out.block _ (heap_lt HZ3.out)).trans HZ3.out).cells
                obtain ⟨y40, y41, y42, y43, y44, y4l⟩ := (show WBox w8 w4.heap.size ⟨o4, f4, t4, n4, (A4, m4, c4)⟩ from (H8.out.block _ (heap_lt HZ4.out)).trans HZ4.out).cells
                obtain ⟨y50, y51, y52, y53, y54, y5l⟩ := (show WBox w8 w5.heap.size ⟨o5, f5, t5, n5, (A5, m5, c5)⟩ from (H8.out.block _ (heap_lt HZ5.out)).trans HZ5.out).cells
                obtain ⟨y60, y61, y62, y63, y64, y6l⟩ := (show WBox w8 w6.heap.size ⟨o6, f6, t6, n6, (A6, m6, c6)⟩ from (H8.out.block _ (heap_lt HZ6.out)).trans HZ6.out).cells
                obtain ⟨y70, y71, y72, y73, y74, y7l⟩ := (HE8.out).cells
                obtain ⟨oc9, hoc⟩ : ∃ o : Obj, .cells #[.int .i64 o2, .int .i64 f2, .string (ba t2), .int .i64 n2, .slice A2 m2 c2] 25 = o := ⟨_, rfl⟩
                have HOC9 := Lib.hid hoc
                have hd2 := one_deep w8 13 ⟨o2, f2, t2, n2, (A2, m2, c2)⟩ p HK2.out (HD2.out.bel H8.out)
                dsimp only at hd2
                rw [hoc] at hd2
                have hba : Below w8.heap.size w8 (w8.alloc oc9) := (Below.refl _ _).alloc (Nat.le_refl _) _
                have hd1 := (HD7.out.bel H8.out).bel hba
                rw [HI5.out (by first | trivial | rfl)] at hd1
                have HSE := Lib.hid (same_true _ _ _ _ hd1 hd2)
                have HBA := Lib.hid hba
                clear hd1 hd2 hba hoc
                go_wp2_with fail
                rw [HOC9.out]
                refine HSE.out.mono ?_
                rintro e w9 ⟨rfl, hb9⟩
                have HB9 := Lib.hid (HB8.out.trans ((HBA.out.trans (hb9.mono HBA.out.size)).mono HB8.out.size))
                clear hb9
                go_wp2
                go_ret
                exact ⟨rfl, HB9.out⟩
              · have hb7 : Below w7.heap.size w7 (w7.alloc ob7) := (Below.refl _ _).alloc (Nat.le_refl _) _
                have hd1 := HD4.out.bel hb7
                rw [HI2.out rfl] at hd1
                have HSE := Lib.hid (same_true _ _ _ _ hd1 (HD2.out.bel hb7))
                have HB7A := Lib.hid hb7
                clear hd1 hb7
                go_wp2_with fail
                rw [HOB7.out]
                refine HSE.out.mono ?_
                rintro e w8 ⟨rfl, hb8⟩
                have H8 := Lib.hid (show Below w7.heap.size w7 w8 from HB7A.out.trans (hb8.mono HB7A.out.size))
                have HB8 := Lib.hid (HB7.out.trans (H8.out.mono HB7.out.size))
                have e8 := box_kept hb8
                rw [← HOB7.out] at e8
                have HE8 := Lib.hid (show WBox w8 w7.heap.size ⟨o7, f7, t7, n7, (A7, m7, c7)⟩ from e8)
                clear hb8 e8 HSE
                clear y20 y21 y22 y23 y24 y2l y30 y31 y32 y33 y34 y3l y40 y41 y42 y43 y44 y4l y50 y51 y52 y53 y54 y5l y60 y61 y62 y63 y64 y6l
                obtain ⟨y20, y21, y22, y23, y24, y2l⟩ := (show WBox w8 w2.heap.size ⟨o2, f2, t2, n2, (A2, m2, c2)⟩ from (H8.out.block _ (heap_lt HZ2.out)).trans HZ2.out).cells
                obtain ⟨y30, y31, y32, y33, y34, y3l⟩ := (show WBox w8 w3.heap.size ⟨o3, f3, t3, n3, (A3, m3, c3)⟩ from (H8.out.block _ (heap_lt HZ3.out)).trans HZ3.out).cells
                obtain ⟨y40, y41, y42, y43, y44, y4l⟩ := (show WBox w8 w4.heap.size ⟨o4, f4, t4, n4, (A4, m4, c4)⟩ from (H8.out.block _ (heap_lt HZ4.out)).trans HZ4.out).cells
                obtain ⟨y50, y51, y52, y53, y54, y5l⟩ := (show WBox w8 w5.heap.size ⟨o5, f5, t5, n5, (A5, m5, c5)⟩ from (H8.out.block _ (heap_lt HZ5.out)).trans HZ5.out).cells
                obtain ⟨y60, y61, y62, y63, y64, y6l⟩ := (show WBox w8 w6.heap.size ⟨o6, f6, t6, n6, (A6, m6, c6)⟩ from (H8.out.block _ (heap_lt HZ6.out)).trans HZ6.out).cells
                obtain ⟨y70, y71, y72, y73, y74, y7l⟩ := (HE8.out).cells
                go_wp2
                go_ret
                exact ⟨rfl, HB8.out⟩
              · go_wp2
                go_ret
                exact ⟨rfl, (by rw [HOB7.out]; exact HA7.out)⟩
        · obtain ⟨d1, d2, d3⟩ := int_ne3 v2
          go_wp2
          go_ret
          exact ⟨rfl, by rw [HOB3.out]; exact HA3.out⟩
      · obtain ⟨d1, d2, d3⟩ := int_ne3 v1
        go_wp2
        go_ret
        exact ⟨rfl, by rw [HOB3.out]; exact HA3.out⟩
end Go.Proofs.YtomcdhmcjndioaaGreatDoor
