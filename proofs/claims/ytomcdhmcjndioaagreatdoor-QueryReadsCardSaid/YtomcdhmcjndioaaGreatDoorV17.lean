/- The reference of layer 37: peek. The reference of layer 37: the contracts of text and plain. The reference of layer 37: size (printed by gen_rsize.py). -/
import Derived.Deep.DeepCutAuto
import Derived.Test.YtomcdhmcjndioaaGreatDoorV03
import Derived.Test.YtomcdhmcjndioaaGreatDoorV05
import Derived.Test.YtomcdhmcjndioaaGreatDoorV11
import Derived.Test.YtomcdhmcjndioaaGreatDoorV16
import Derived.Test.YtomcdhmcjndioaaGreatDoorV13
section
namespace Go.Proofs.YtomcdhmcjndioaaGreatDoor
open Go.RowKit
set_option linter.unusedVariables false

/-- A token as the reference's Piece; n is the text's length. -/
def rpcV (n : Nat) (x : Pce) : Value := match x.tok with
  | .fin => .agg #[.int .i64 (x.src : Nat), .int .i64 (x.dst : Nat), .int .i64 0, .string ⟨#[]⟩, .bool false, .string ⟨#[]⟩, .bool false]
  | .opn => .agg #[.int .i64 (x.src : Nat), .int .i64 (x.dst : Nat), .int .i64 1, .string ⟨#[]⟩, .bool false, .string ⟨#[]⟩, .bool false]
  | .sht => .agg #[.int .i64 (x.src : Nat), .int .i64 (x.dst : Nat), .int .i64 2, .string ⟨#[]⟩, .bool false, .string ⟨#[]⟩, .bool false]
  | .dash => .agg #[.int .i64 (x.src : Nat), .int .i64 (x.dst : Nat), .int .i64 3, .string ⟨#[]⟩, .bool false, .string ⟨#[]⟩, .bool false]
  | .bad => .agg #[.int .i64 (x.src : Nat), .int .i64 (n : Nat), .int .i64 4, .string ⟨#[]⟩, .bool false, .string ⟨#[]⟩, .bool true]
  | .quo t 0 _ => .agg #[.int .i64 (x.src : Nat), .int .i64 (x.dst : Nat), .int .i64 4, .string (ba t), .bool false, .string ⟨#[]⟩, .bool false]
  | .quo t (_ + 1) raw => .agg #[.int .i64 (x.src : Nat), .int .i64 (x.dst : Nat), .int .i64 5, .string (ba raw), .bool true, .string (ba t), .bool false]
  | .bare t => .agg #[.int .i64 (x.src : Nat), .int .i64 (x.dst : Nat), .int .i64 5, .string (ba t), .bool false, .string ⟨#[]⟩, .bool false]
def RPk (w : World) (n : Nat) (x : Pce) (e : Ending) (w' : World) : Prop := e = .returned (rpcV n x) ∧ Below w.heap.size w w'
theorem rpk_end {w w' : World} {n : Nat} {x y : Pce} {v : Value} (h : x = y) (hv : v = rpcV n y) (hb : Below w.heap.size w w') : RPk w n x (.returned v) w' := by
  rw [h, hv]
  exact ⟨rfl, hb⟩
/-- What the quote at k begins: no end, or a text t that ends ahead of m. -/
theorem quo_at (l : List UInt8) (k : Nat) : ((∀ src f raw, quoQ src k (l.drop (k + 1)) f raw = ⟨k, k, .bad⟩) ∧ endQ l k = -1) ∨ ∃ (t : List UInt8) (m : Nat), endQ l k = (m : Int) ∧ m = k + t.length + 2 ∧ m ≤ l.length ∧ (l.take (m - 1)).drop (k + 1) = t ∧ ∀ src f raw, quoQ src k (l.drop (k + 1)) f raw = ⟨src, m, .quo t f raw⟩ := by
  by_cases h : 34 ∈ l.drop (k + 1)
  · refine .inr ⟨(l.drop (k + 1)).takeWhile (· != 34), k + ((l.drop (k + 1)).takeWhile (· != 34)).length + 2, ?_, rfl, ?_, ?_, ?_⟩
    · unfold endQ; rw [if_pos h]; omega
    · have h1 := (quo_dst k k (l.drop (k + 1)) 0 [])
      unfold quoQ at h1
      rw [if_pos h, List.length_drop] at h1
      have h2 : k + 1 < l.length := by
        have := List.length_pos_of_mem h
        rw [List.length_drop] at this
        omega
      have := h1.2
      dsimp only at this
      omega
    · have h1 := List.prefix_iff_eq_take.1 (List.takeWhile_prefix (p := (· != 34)) (l := l.drop (k + 1)))
      conv => rhs; rw [h1]
      rw [List.drop_take]
      congr 1
      omega
    · intro src f raw
      unfold quoQ
      rw [if_pos h]
  · refine .inl ⟨fun src f raw => ?_, ?_⟩
    · unfold quoQ; rw [if_neg h]
    · unfold endQ; rw [if_neg h]
theorem edgeQ_eq (c : UInt8) : edgeQ c = (blankQ c || c == 40 || c == 41 || c == 34) := rfl
set_option maxRecDepth 100000 in
set_option maxHeartbeats 4000000 in
theorem rpeek_any (l : List UInt8) (a b : Nat) (w : World) (hl : l.length ≤ 1000000000) (ha : a ≤ l.length) (c0 : w.cell? ⟨b, 0, none⟩ = some (.string (ba l))) (c1 : w.cell? ⟨b, 1, none⟩ = some (.int .i64 (a : Int))) :
    Calls Tryz.prog 16 #[.pointer (some ⟨b, 0, none⟩)] w (RPk w l.length (peekQ l a)) := by
  obtain ⟨X, hX⟩ : ∃ X, peekQ l a = X := ⟨_, rfl⟩
  have HX0 := Lib.hid hX
  rw [hX]
  clear hX
  obtain ⟨n, hn⟩ : ∃ n, l.length = n := ⟨_, rfl⟩
  have HL := Lib.hid hn
  obtain ⟨s, hs⟩ : ∃ s, ba l = s := ⟨_, rfl⟩
  have HS := Lib.hid hs
  have HZ := Lib.hid (show s.size = n by rw [← hs, ba_size, hn])
  have hsz : (s.size : Int) = n := by rw [HZ.out]
  rw [hs] at c0
  rw [hn] at hl ha ⊢
  clear hs hn
  have hne : w.heap.size ≠ b := World.new_ne w ⟨b, 0, none⟩ c0
  have hbw : b < w.heap.size := World.block_lt_of_cell? w ⟨b, 0, none⟩ c0
  go_enter Tryz.func16, Tryz.ntmps16
  go_wp2
  go_loop [4] (fun i => ∃ k : Nat, a ≤ k ∧ k ≤ n ∧ i = .int .i64 (k : Int) ∧ Hid (GapRel l a k)) (fun i => n - (intOf i).toNat)
  case atStart => exact ⟨a, Nat.le_refl _, ha, rfl, Lib.hid rfl⟩
  case round =>
    obtain ⟨k, hak, hk, rfl, HR⟩ := hrel
    by_cases hlt : k < n
    · have hk2 : (k : Int) < (n : Int) := by omega
      have hk0 : (0 : Int) ≤ (k : Int) := by omega
      have hks : k < s.size := by rw [HZ.out]; omega
      have hkl : k < l.length := by rw [HL.out]; omega
      have hget : s[k] = l[k] := by
        have h := HS.out
        subst h
        rfl
      have HST := Lib.hid (fun h => HR.out.trans (gap_step hkl h))
      have HSP := Lib.hid (fun h => peek_at HR.out (gap_stop hkl h))
      have T0 := Lib.hid (tok_opn hkl)
      have T1 := Lib.hid (tok_sht hkl)
      have T2 := Lib.hid (tok_quo hkl)
      have T3 := Lib.hid (tok_dash hkl)
      have T4 := Lib.hid (tok_bare hkl)
      have HEK := Lib.hid (show edgeQ l[k] = false → ∀ (j : Nat) (hj : j < l.length), j = k → edgeQ l[j] = false from fun h j hj e => by subst e; exact h)
      obtain ⟨c, hc⟩ : ∃ c, l[k] = c := ⟨_, rfl⟩
      rw [hc] at hget HST HSP T0 T1 T2 T3 T4 HEK
      obtain ⟨x, hx⟩ : ∃ x : Int, (c.toNat : Int) = x := ⟨_, rfl⟩
      have hgi : ((s[k]).toNat : Int) = x := by rw [hget]; exact hx
      have HX := Lib.hid hx
      have hx0 : 0 ≤ x := by omega
      have hx1 : x ≤ 255 := by have := c.toNat_lt; omega
      clear hc hkl hget hx
      have HU := Lib.hid (fun d : UInt8 => u8_int_eq' (c := c) (d := d))
      by_cases hbl : blankQ c = true
      · have HG := Lib.hid (HST.out hbl)
        go_wp2_with fail
        rw [← HX.out]
        refine (rqblank_any c _).mono ?_
        rintro e w' ⟨rfl, rfl⟩
        rw [hbl]
        go_wp2
        go_round
        case rel => exact ⟨k + 1, by omega, by omega, by go_num, HG⟩
        case measure => simp [intOf] <;> omega
      · have hbl2 : blankQ c = false := by simpa using hbl
        have HPK := Lib.hid (HX0.out.symm.trans (HSP.out hbl2))
        go_wp2_with fail
        rw [← HX.out]
        refine (rqblank_any c _).mono ?_
        rintro e w' ⟨rfl, rfl⟩
        rw [hbl2]
        clear hbl
        have HBL := Lib.hid hbl2
        clear hbl2
        have gkn : ((k : Int) == (n : Int)) = false := by simp; omega
        have HQT := Lib.hid (show ∀ (j : Nat) W, j < n → Calls Tryz.prog 33 #[.string s, .int .i64 (j : Int)] W fun e w' => e = .returned (.int .i64 (endQ l j)) ∧ w' = W from fun j W hj => by
          rw [← HS.out]
          exact rquoted_any l j W (by rw [HL.out]; exact hl) (by rw [HL.out]; exact hj))
        have HEX := Lib.hid (show ∀ i j, s.extract i j = ba ((l.take j).drop i) from fun i j => by rw [← HS.out]; exact ba_cut l i j)
        go_upto_block 2 with (fail)
        go_cut [] from 38 to 95 (fun wc => wc = w.alloc (.cells #[.int .i64 0, .int .i64 0, .int .i64 0, .string ⟨#[]⟩, .bool false, .string ⟨#[]⟩, .bool false] 51) ∧ Hid (X = bareQ k (l.drop k)) ∧ Hid (edgeQ c = false))
        case first =>
          by_cases e40 : x = 40
          · have HF := Lib.hid (HPK.out.trans (T0.out ((HU.out 40).1 (by rw [HX.out, e40]; rfl))))
            have g1 : (x == 40) = true := by simpa using e40
            clear e40
            go_wp2
            refine bodyPost_ret (by simp [results, Tryz.results16, go_sem]; try rfl) rfl ?_
            exact rpk_end HF.out rfl ((Below.refl _ _).alloc (Nat.le_refl _) _)
          have g40 : (x == 40) = false := by simpa using e40
          by_cases e41 : x = 41
          · have HF := Lib.hid (HPK.out.trans (T1.out ((HU.out 41).1 (by rw [HX.out, e41]; rfl))))
            have g1 : (x == 41) = true := by simpa using e41
            clear e40 e41
            go_wp2
            refine bodyPost_ret (by simp [results, Tryz.results16, go_sem]; try rfl) rfl ?_
            exact rpk_end HF.out rfl ((Below.refl _ _).alloc (Nat.le_refl _) _)
          have g41 : (x == 41) = false := by simpa using e41
          by_cases e34 : x = 34
          · have HF := Lib.hid (HPK.out.trans (T2.out ((HU.out 34).1 (by rw [HX.out, e34]; rfl))))
            have g1 : (x == 34) = true := by simpa using e34
            have HQ := Lib.hid (quo_at l k)
            clear e40 e41 e34
            rcases HQ.out with ⟨hb, he⟩ | ⟨t, m, he, hm, hml, hcut, hq⟩
            · have HF2 := Lib.hid (HF.out.trans (hb k 0 []))
              have HE := Lib.hid he
              clear hb he HQ
              go_wp2_with fail
              refine (HQT.out k _ hlt).mono ?_
              rintro e w' ⟨rfl, rfl⟩
              rw [HE.out]
              go_wp2
              refine bodyPost_ret (by simp [results, Tryz.results16, go_sem]; try rfl) rfl ?_
              exact rpk_end HF2.out rfl ((Below.refl _ _).alloc (Nat.le_refl _) _)
            · have HF2 := Lib.hid (HF.out.trans (hq k 0 []))
              have HE := Lib.hid he
              have HC := Lib.hid hcut
              have hm1 : (k : Int) + 2 ≤ (m : Int) := by omega
              have hm2 : (m : Int) ≤ (n : Int) := by rw [HL.out] at hml; omega
              have hm3 : ((m : Int) - 1).toNat = m - 1 := by omega
              clear hcut hq he hm hml HQ
              go_wp2_with fail
              refine (HQT.out k _ hlt).mono ?_
              rintro e w' ⟨rfl, rfl⟩
              rw [HE.out]
              go_wp2
              rw [HEX.out, HC.out]
              refine bodyPost_ret (by simp [results, Tryz.results16, go_sem]; try rfl) rfl ?_
              exact rpk_end HF2.out rfl ((Below.refl _ _).alloc (Nat.le_refl _) _)
          have g34 : (x == 34) = false := by simpa using e34
          have HK := Lib.hid (show edgeQ c = false by
            rw [edgeQ_eq, HBL.out]
            have h1 : (c == 40) = false := beq_eq_false_iff_ne.2 fun h => e40 (by rw [← HX.out, h]; rfl)
            have h2 : (c == 41) = false := beq_eq_false_iff_ne.2 fun h => e41 (by rw [← HX.out, h]; rfl)
            have h3 : (c == 34) = false := beq_eq_false_iff_ne.2 fun h => e34 (by rw [← HX.out, h]; rfl)
            rw [h1, h2, h3]
            rfl)
          have N40 := Lib.hid (show c ≠ 40 from fun h => e40 (by rw [← HX.out, h]; rfl))
          have N41 := Lib.hid (show c ≠ 41 from fun h => e41 (by rw [← HX.out, h]; rfl))
          have N34 := Lib.hid (show c ≠ 34 from fun h => e34 (by rw [← HX.out, h]; rfl))
          by_cases e45 : x = 45
          · have g45 : (x == 45) = true := by simpa using e45
            have HC := Lib.hid (show c = 45 from (HU.out 45).1 (by rw [HX.out, e45]; rfl))
            by_cases hk1 : k + 1 < n
            · have q1 : (k : Int) + 1 < (n : Int) := by omega
              have q0 : (0 : Int) ≤ (k : Int) + 1 := by omega
              have qs : k + 1 < s.size := by rw [HZ.out]; omega
              have ql : k + 1 < l.length := by rw [HL.out]; omega
              have qget : s[k + 1] = l[k + 1] := by
                have h := HS.out
                subst h
                rfl
              have HDA := Lib.hid (fun h1 h2 => HPK.out.trans (T3.out HC.out ql h1 h2))
              have HBA := Lib.hid (fun (h : blankQ l[k + 1] = true ∨ l[k + 1] = 41) => HPK.out.trans (T4.out N40.out N41.out N34.out fun _ _ => h))
              obtain ⟨d, hd⟩ : ∃ d, l[k + 1] = d := ⟨_, rfl⟩
              rw [hd] at qget HDA HBA
              obtain ⟨y, hy⟩ : ∃ y : Int, (d.toNat : Int) = y := ⟨_, rfl⟩
              have qgi : ((s[k + 1]).toNat : Int) = y := by rw [qget]; exact hy
              have HY := Lib.hid hy
              have HUD := Lib.hid (fun e : UInt8 => u8_int_eq' (c := d) (d := e))
              clear hd ql qget hy e45 e40 e41 e34
              by_cases hb1 : blankQ d = true
              · have HF := Lib.hid (HBA.out (.inl hb1))
                go_wp2_with fail
                rw [← HY.out]
                refine (rqblank_any d _).mono ?_
                rintro e w' ⟨rfl, rfl⟩
                rw [hb1]
                clear hb1
                go_wp2
                go_meet
                case rel => exact ⟨rfl, HF, HK⟩
              · have hb2 : blankQ d = false := by simpa using hb1
                by_cases e : y = 41
                · have HF := Lib.hid (HBA.out (.inr ((HUD.out 41).1 (by rw [HY.out, e]; rfl))))
                  have g : (y != 41) = false := by simpa using e
                  clear e
                  go_wp2_with fail
                  rw [← HY.out]
                  refine (rqblank_any d _).mono ?_
                  rintro e w' ⟨rfl, rfl⟩
                  rw [hb2]
                  clear hb1 hb2
                  go_wp2
                  go_meet
                  case rel => exact ⟨rfl, HF, HK⟩
                · have HF := Lib.hid (HDA.out hb2 (fun h => e (by rw [← HY.out, h]; rfl)))
                  have g : (y != 41) = true := by simpa using e
                  clear e
                  go_wp2_with fail
                  rw [← HY.out]
                  refine (rqblank_any d _).mono ?_
                  rintro e w' ⟨rfl, rfl⟩
                  rw [hb2]
                  clear hb1 hb2
                  go_wp2
                  refine bodyPost_ret (by simp [results, Tryz.results16, go_sem]; try rfl) rfl ?_
                  exact rpk_end HF.out rfl ((Below.refl _ _).alloc (Nat.le_refl _) _)
            · have q1 : ¬ (k : Int) + 1 < (n : Int) := by omega
              have HF := Lib.hid (HPK.out.trans (T4.out N40.out N41.out N34.out fun _ h => absurd h (by rw [HL.out]; exact hk1)))
              clear e45 e40 e41 e34
              go_wp2
              go_meet
              case rel => exact ⟨rfl, HF, HK⟩
          · have g45 : (x == 45) = false := by simpa using e45
            have HF := Lib.hid (HPK.out.trans (T4.out N40.out N41.out N34.out fun h => absurd (by rw [← HX.out, h]; rfl) e45))
            clear e45 e40 e41 e34
            go_wp2
            go_meet
            case rel => exact ⟨rfl, HF, HK⟩
        case rest =>
          obtain ⟨rfl, HF, HK⟩ := hcut
          clear hgi
          go_wp2
          go_loop [6] (fun t => ∃ j : Nat, k ≤ j ∧ j ≤ n ∧ t = .int .i64 (j : Int) ∧ Hid (BareRel l k j)) (fun t => n - (intOf t).toNat)
          case atStart => exact ⟨k, Nat.le_refl _, hk, rfl, Lib.hid rfl⟩
          case round =>
            obtain ⟨j, hkj, hj, rfl, HR⟩ := hrel
            have k3 : (k : Int) ≤ (j : Int) := by omega
            by_cases hjn : j < n
            · have hk2 : (j : Int) < (n : Int) := by omega
              have hk0 : (0 : Int) ≤ (j : Int) := by omega
              have hks : j < s.size := by rw [HZ.out]; omega
              have hkl : j < l.length := by rw [HL.out]; omega
              have hget : s[j] = l[j] := by
                have h := HS.out
                subst h
                rfl
              have HST := Lib.hid (fun h => HR.out.trans (bareN_step hkl h))
              have HPR := Lib.hid (fun (h : edgeQ l[j] = true) (hne : l[j] ≠ 34) => HF.out.trans (bare_plain HR.out (bareN_stop hkl h) (fun _ => hne)))
              have HKJ := Lib.hid (fun (h : edgeQ l[j] = true) => (show k < j from by
                have h1 := HR.out
                unfold BareRel at h1
                rw [bareN_stop hkl h] at h1
                by_cases e : k = j
                · exact absurd (h.symm.trans (HEK.out HK.out j hkl e.symm)) (by decide)
                · omega))
              have HOT := Lib.hid (fun (hkj : k < j) (hc : l[j] = 34) hn => HF.out.trans (bare_other HR.out (bareN_stop hkl (by rw [hc]; rfl)) hkj hkl hc hn))
              have HFI := Lib.hid (fun (hkj : k < j) (hc : l[j] = 34) hn hf => HF.out.trans (bare_field HR.out (bareN_stop hkl (by rw [hc]; rfl)) hkj hkl hc hn hf))
              obtain ⟨d, hd⟩ : ∃ d, l[j] = d := ⟨_, rfl⟩
              rw [hd] at hget HST HPR HKJ HOT HFI
              obtain ⟨y, hy⟩ : ∃ y : Int, (d.toNat : Int) = y := ⟨_, rfl⟩
              have hgi : ((s[j]).toNat : Int) = y := by rw [hget]; exact hy
              have HY := Lib.hid hy
              have HUD := Lib.hid (fun e : UInt8 => u8_int_eq' (c := d) (d := e))
              have ED := Lib.hid (edgeQ_eq d)
              clear hd hget hy
              by_cases hb1 : blankQ d = true
              · have HPL := Lib.hid (HPR.out (by rw [ED.out, hb1]; rfl) (fun h => by rw [h] at hb1; exact absurd hb1 (by decide)))
                have g34 : (y == 34) = false := by
                  simp only [beq_eq_false_iff_ne]
                  intro h
                  rw [(HUD.out 34).1 (by rw [HY.out, h]; rfl)] at hb1
                  exact absurd hb1 (by decide)
                go_wp2_with fail
                rw [← HY.out]
                refine (rqblank_any d _).mono ?_
                rintro e w' ⟨rfl, rfl⟩
                rw [hb1]
                clear hb1
                go_wp2
                rw [HEX.out]
                refine bodyPost_ret (by simp [results, Tryz.results16, go_sem]; try rfl) rfl ?_
                exact rpk_end HPL.out rfl (((Below.refl _ _).alloc (Nat.le_refl _) _).alloc (by simp) _)
              · have hb2 : blankQ d = false := by simpa using hb1
                have HB2 := Lib.hid hb2
                by_cases e40 : y = 40
                · have HD := Lib.hid ((HUD.out 40).1 (by rw [HY.out, e40]; rfl))
                  have HPL := Lib.hid (HPR.out (by rw [HD.out]; rfl) (by rw [HD.out]; decide))
                  have g40 : (y != 40) = false := by simpa using e40
                  have g34 : (y == 34) = false := by rw [e40]; rfl
                  clear e40
                  go_wp2_with fail
                  rw [← HY.out]
                  refine (rqblank_any d _).mono ?_
                  rintro e w' ⟨rfl, rfl⟩
                  rw [hb2]
                  clear hb1 hb2
                  go_wp2
                  rw [HEX.out]
                  refine bodyPost_ret (by simp [results, Tryz.results16, go_sem]; try rfl) rfl ?_
                  exact rpk_end HPL.out rfl (((Below.refl _ _).alloc (Nat.le_refl _) _).alloc (by simp) _)
                · have g40 : (y != 40) = true := by simpa using e40
                  by_cases e41 : y = 41
                  · have HD := Lib.hid ((HUD.out 41).1 (by rw [HY.out, e41]; rfl))
                    have HPL := Lib.hid (HPR.out (by rw [HD.out]; rfl) (by rw [HD.out]; decide))
                    have g41 : (y != 41) = false := by simpa using e41
                    have g34 : (y == 34) = false := by rw [e41]; rfl
                    clear e40 e41
                    go_wp2_with fail
                    rw [← HY.out]
                    refine (rqblank_any d _).mono ?_
                    rintro e w' ⟨rfl, rfl⟩
                    rw [hb2]
                    clear hb1 hb2
                    go_wp2
                    rw [HEX.out]
                    refine bodyPost_ret (by simp [results, Tryz.results16, go_sem]; try rfl) rfl ?_
                    exact rpk_end HPL.out rfl (((Below.refl _ _).alloc (Nat.le_refl _) _).alloc (by simp) _)
                  · have g41 : (y != 41) = true := by simpa using e41
                    by_cases e34 : y = 34
                    · have HD := Lib.hid ((HUD.out 34).1 (by rw [HY.out, e34]; rfl))
                      have gn34 : (y != 34) = false := by simpa using e34
                      have g34 : (y == 34) = true := by simpa using e34
                      have hkj1 : k < j := HKJ.out (by rw [HD.out]; rfl)
                      have k4 : (k : Int) ≤ (j : Int) - 1 := by omega
                      have k5 : (0 : Int) ≤ (j : Int) - 1 := by omega
                      have k6 : (j : Int) - 1 < (n : Int) := by omega
                      have k7 : ((j : Int) - 1).toNat = j - 1 := by omega
                      have k8 : (j : Int) - 1 ≤ (n : Int) := by omega
                      have ps : j - 1 < s.size := by rw [HZ.out]; omega
                      have pl : j - 1 < l.length := by rw [HL.out]; omega
                      have pget : s[j - 1] = l[j - 1] := by
                        have h := HS.out
                        subst h
                        rfl
                      have HO2 := Lib.hid (fun (hn : l[j - 1] ≠ 58 ∨ fieldQ ((l.take (j - 1)).drop k) = 0) => HOT.out hkj1 HD.out hn)
                      have HF2 := Lib.hid (fun (hn : l[j - 1] = 58) hf => HFI.out hkj1 HD.out hn hf)
                      obtain ⟨z, hz⟩ : ∃ z, l[j - 1] = z := ⟨_, rfl⟩
                      rw [hz] at pget HO2 HF2
                      obtain ⟨v, hv⟩ : ∃ v : Int, (z.toNat : Int) = v := ⟨_, rfl⟩
                      have pgi : ((s[j - 1]).toNat : Int) = v := by rw [pget]; exact hv
                      have HV := Lib.hid hv
                      have HUZ := Lib.hid (fun e : UInt8 => u8_int_eq' (c := z) (d := e))
                      clear hz pget hv pl e34 e40 e41
                      by_cases e58 : v = 58
                      · have g58 : (v == 58) = true := by simpa using e58
                        have HZ58 := Lib.hid ((HUZ.out 58).1 (by rw [HV.out, e58]; rfl))
                        clear e58
                        have HFL := Lib.hid (fun W => rfield_any ((l.take (j - 1)).drop k) W (by rw [List.length_drop, List.length_take]; omega))
                        obtain ⟨F, hFF⟩ : ∃ F, fieldQ ((l.take (j - 1)).drop k) = F := ⟨_, rfl⟩
                        rw [hFF] at HFL HO2 HF2
                        clear hFF
                        go_wp2_with fail
                        rw [← HY.out]
                        refine (rqblank_any d _).mono ?_
                        rintro e w' ⟨rfl, rfl⟩
                        rw [hb2]
                        clear hb1 hb2
                        go_wp2_with fail
                        rw [HEX.out, HEX.out]
                        refine (HFL.out ((w.alloc (.cells #[.int .i64 0, .int .i64 0, .int .i64 0, .string ⟨#[]⟩, .bool false, .string ⟨#[]⟩, .bool false] 51)).alloc (.cells #[.int .i64 (k : Int), .int .i64 (j : Int), .int .i64 5, .string (ba ((l.take j).drop k)), .bool false, .string ⟨#[]⟩, .bool false] 51))).mono ?_
                        rintro e w3 ⟨rfl, hb3⟩
                        have z1 : w.heap.size < w3.heap.size := by have := hb3.size; simp at this; omega
                        have z2 : w.heap.size + 1 < w3.heap.size := by have := hb3.size; simp at this; omega
                        have HB3 := Lib.hid ((((Below.refl w.heap.size w).alloc (Nat.le_refl _) (.cells #[.int .i64 0, .int .i64 0, .int .i64 0, .string ⟨#[]⟩, .bool false, .string ⟨#[]⟩, .bool false] 51)).alloc (by simp) (.cells #[.int .i64 (k : Int), .int .i64 (j : Int), .int .i64 5, .string (ba ((l.take j).drop k)), .bool false, .string ⟨#[]⟩, .bool false] 51)).trans (hb3.mono (by simp; omega)))
                        have bk0 : w3.heap[w.heap.size]? = some (.cells #[.int .i64 0, .int .i64 0, .int .i64 0, .string ⟨#[]⟩, .bool false, .string ⟨#[]⟩, .bool false] 51 (0, 0)) := by
                          have h1 := (MapKept.heap_alloc w (.cells #[.int .i64 0, .int .i64 0, .int .i64 0, .string ⟨#[]⟩, .bool false, .string ⟨#[]⟩, .bool false] 51)).1
                          exact (hb3.block _ (by simp; omega)).trans ((heap_alloc_old _ _ (by simp)).trans h1)
                        have bk1 : w3.heap[w.heap.size + 1]? = some (.cells #[.int .i64 (k : Int), .int .i64 (j : Int), .int .i64 5, .string (ba ((l.take j).drop k)), .bool false, .string ⟨#[]⟩, .bool false] 51 (0, 0)) := by
                          have h1 := (MapKept.heap_alloc (w.alloc (.cells #[.int .i64 0, .int .i64 0, .int .i64 0, .string ⟨#[]⟩, .bool false, .string ⟨#[]⟩, .bool false] 51)) (.cells #[.int .i64 (k : Int), .int .i64 (j : Int), .int .i64 5, .string (ba ((l.take j).drop k)), .bool false, .string ⟨#[]⟩, .bool false] 51)).1
                          simp only [World.size_alloc] at h1
                          exact (hb3.block _ (by simp)).trans h1
                        have x0 : w3.cell? ⟨w.heap.size + 1, 0, none⟩ = some (.int .i64 (k : Int)) := by rw [Lib.cell_of_heap bk1]; rfl
                        have x1 : w3.cell? ⟨w.heap.size + 1, 1, none⟩ = some (.int .i64 (j : Int)) := by rw [Lib.cell_of_heap bk1]; rfl
                        have x2 : w3.cell? ⟨w.heap.size + 1, 2, none⟩ = some (.int .i64 5) := by rw [Lib.cell_of_heap bk1]; rfl
                        have x3 : w3.cell? ⟨w.heap.size + 1, 3, none⟩ = some (.string (ba ((l.take j).drop k))) := by rw [Lib.cell_of_heap bk1]; rfl
                        have x4 : w3.cell? ⟨w.heap.size + 1, 4, none⟩ = some (.bool false) := by rw [Lib.cell_of_heap bk1]; rfl
                        have x5 : w3.cell? ⟨w.heap.size + 1, 5, none⟩ = some (.string ⟨#[]⟩) := by rw [Lib.cell_of_heap bk1]; rfl
                        have x6 : w3.cell? ⟨w.heap.size + 1, 6, none⟩ = some (.bool false) := by rw [Lib.cell_of_heap bk1]; rfl
                        have r0 : w3.cell? ⟨w.heap.size, 0, none⟩ = some (.int .i64 0) := by rw [Lib.cell_of_heap bk0]; rfl
                        have r1 : w3.cell? ⟨w.heap.size, 1, none⟩ = some (.int .i64 0) := by rw [Lib.cell_of_heap bk0]; rfl
                        have r2 : w3.cell? ⟨w.heap.size, 2, none⟩ = some (.int .i64 0) := by rw [Lib.cell_of_heap bk0]; rfl
                        have r3 : w3.cell? ⟨w.heap.size, 3, none⟩ = some (.string ⟨#[]⟩) := by rw [Lib.cell_of_heap bk0]; rfl
                        have r4 : w3.cell? ⟨w.heap.size, 4, none⟩ = some (.bool false) := by rw [Lib.cell_of_heap bk0]; rfl
                        have r5 : w3.cell? ⟨w.heap.size, 5, none⟩ = some (.string ⟨#[]⟩) := by rw [Lib.cell_of_heap bk0]; rfl
                        have r6 : w3.cell? ⟨w.heap.size, 6, none⟩ = some (.bool false) := by rw [Lib.cell_of_heap bk0]; rfl
                        have f1 : ∀ i, w3.frozen? ⟨w.heap.size + 1, i, none⟩ = false := fun i => Lib.frozen_of_heap bk1 i
                        have f0 : ∀ i, w3.frozen? ⟨w.heap.size, i, none⟩ = false := fun i => Lib.frozen_of_heap bk0 i
                        clear hb3 bk0 bk1
                        by_cases hF : F = 0
                        · have HPL := Lib.hid (HO2.out (.inr hF))
                          subst hF
                          go_wp2
                          refine bodyPost_ret (v := .agg #[.int .i64 (k : Int), .int .i64 (j : Int), .int .i64 5, .string (ba ((l.take j).drop k)), .bool false, .string ⟨#[]⟩, .bool false]) (by simp [results, Tryz.results16, go_sem, r0, r1, r2, r3, r4, r5, r6]) rfl ?_
                          refine rpk_end HPL.out (by rfl) ?_
                          repeat (first | (with_reducible exact HB3.out) | refine Below.setCell ?_ (by simp) _)
                        · have hF1 : decide ((0 : Int) < (F : Int)) = true := decide_eq_true (by omega)
                          have hF2 : (0 : Int) < (F : Int) := by omega
                          have HXQ := Lib.hid (HF2.out HZ58.out (by omega))
                          have HQ := Lib.hid (quo_at l j)
                          rcases HQ.out with ⟨hb, he⟩ | ⟨t, m, he, hm, hml, hcut, hq⟩
                          · have HPL := Lib.hid (HXQ.out.trans (hb k F ((l.take j).drop k)))
                            have HE := Lib.hid he
                            clear hb he HQ
                            go_wp2_with fail
                            refine (HQT.out j _ hjn).mono ?_
                            rintro e w' ⟨rfl, rfl⟩
                            rw [HE.out]
                            go_wp2
                            refine bodyPost_ret (v := .agg #[.int .i64 (j : Int), .int .i64 (n : Int), .int .i64 4, .string ⟨#[]⟩, .bool false, .string ⟨#[]⟩, .bool true]) (by simp [results, Tryz.results16, go_sem, r0, r1, r2, r3, r4, r5, r6]) rfl ?_
                            refine rpk_end HPL.out (by rfl) ?_
                            repeat (first | (with_reducible exact HB3.out) | refine Below.setCell ?_ (by simp) _)
                          · have HPL := Lib.hid (HXQ.out.trans (hq k F ((l.take j).drop k)))
                            have HE := Lib.hid he
                            have HC := Lib.hid hcut
                            have hm1 : (j : Int) + 2 ≤ (m : Int) := by omega
                            have hm2 : (m : Int) ≤ (n : Int) := by rw [HL.out] at hml; omega
                            have hm3 : ((m : Int) - 1).toNat = m - 1 := by omega
                            obtain ⟨F', rfl⟩ : ∃ F', F = F' + 1 := ⟨F - 1, by omega⟩
                            clear hcut hq he hm hml HQ hF
                            go_wp2_with fail
                            refine (HQT.out j _ hjn).mono ?_
                            rintro e w' ⟨rfl, rfl⟩
                            rw [HE.out]
                            go_wp2
                            refine bodyPost_ret (v := .agg #[.int .i64 (k : Int), .int .i64 (m : Int), .int .i64 5, .string (ba ((l.take j).drop k)), .bool true, .string (s.extract (j + 1) (m - 1)), .bool false]) (by simp [results, Tryz.results16, go_sem, r0, r1, r2, r3, r4, r5, r6]) rfl ?_
                            refine rpk_end HPL.out (by rw [HEX.out, HC.out]; rfl) ?_
                            repeat (first | (with_reducible exact HB3.out) | refine Below.setCell ?_ (by simp) _)
                      · have g58 : (v == 58) = false := by simpa using e58
                        have HPL := Lib.hid (HO2.out (.inl fun h => e58 (by rw [← HV.out, h]; rfl)))
                        clear e58
                        go_wp2_with fail
                        rw [← HY.out]
                        refine (rqblank_any d _).mono ?_
                        rintro e w' ⟨rfl, rfl⟩
                        rw [hb2]
                        clear hb1 hb2
                        go_wp2
                        rw [HEX.out]
                        refine bodyPost_ret (by simp [results, Tryz.results16, go_sem]; try rfl) rfl ?_
                        exact rpk_end HPL.out rfl (((Below.refl _ _).alloc (Nat.le_refl _) _).alloc (by simp) _)
                    · have gn34 : (y != 34) = true := by simpa using e34
                      have HG := Lib.hid (HST.out (by
                        rw [ED.out, HB2.out]
                        have h1 : (d == 40) = false := beq_eq_false_iff_ne.2 fun h => e40 (by rw [← HY.out, h]; rfl)
                        have h2 : (d == 41) = false := beq_eq_false_iff_ne.2 fun h => e41 (by rw [← HY.out, h]; rfl)
                        have h3 : (d == 34) = false := beq_eq_false_iff_ne.2 fun h => e34 (by rw [← HY.out, h]; rfl)
                        rw [h1, h2, h3]
                        rfl))
                      clear e34 e40 e41
                      go_wp2_with fail
                      rw [← HY.out]
                      refine (rqblank_any d _).mono ?_
                      rintro e w' ⟨rfl, rfl⟩
                      rw [hb2]
                      clear hb1 hb2
                      go_wp2
                      go_round
                      case rel => exact ⟨j + 1, by omega, by omega, by go_num, HG⟩
                      case measure => simp [intOf] <;> omega
            · obtain rfl : j = n := by omega
              have HPL := Lib.hid (HF.out.trans (bare_plain HR.out (bareN_end (by rw [HL.out]; exact Nat.le_refl _)) (fun h => absurd h (by rw [HL.out]; omega))))
              have hjj : ¬ (j : Int) < (j : Int) := by omega
              go_wp2
              rw [HEX.out]
              refine bodyPost_ret (by simp [results, Tryz.results16, go_sem]; try rfl) rfl ?_
              exact rpk_end HPL.out rfl (((Below.refl _ _).alloc (Nat.le_refl _) _).alloc (by simp) _)
    · obtain rfl : k = n := by omega
      have HPK := Lib.hid (HX0.out.symm.trans ((peek_at HR.out (gap_end (by rw [HL.out]; exact Nat.le_refl _))).trans (tok_fin (by rw [HL.out]; exact Nat.le_refl _))))
      go_wp2
      refine bodyPost_ret (by simp [results, Tryz.results16, go_sem]; try rfl) rfl ?_
      exact rpk_end HPK.out rfl ((Below.refl _ _).alloc (Nat.le_refl _) _)
end Go.Proofs.YtomcdhmcjndioaaGreatDoor
end
section
namespace Go.Proofs.YtomcdhmcjndioaaGreatDoor
open Go.RowKit
set_option linter.unusedVariables false

theorem joinSp_snoc : ∀ (ss : List (List UInt8)) (k : Nat) (h : k < ss.length), 1 ≤ k → joinSp (ss.take (k + 1)) = joinSp (ss.take k) ++ (32 :: ss[k])
  | [], k, h, _ => by simp at h
  | [a], k, h, h1 => by simp at h; omega
  | a :: b :: r, 1, h, _ => by
    show joinSp [a, b] = joinSp [a] ++ 32 :: b
    rfl
  | a :: b :: r, k + 2, h, _ => by
    have ih := joinSp_snoc (b :: r) (k + 1) (by simpa using h) (by omega)
    have e1 : (a :: b :: r).take (k + 2 + 1) = a :: (b :: r.take (k + 1)) := rfl
    have e2 : (a :: b :: r).take (k + 2) = a :: (b :: r.take k) := rfl
    have e3 : (b :: r).take (k + 1 + 1) = b :: r.take (k + 1) := rfl
    have e4 : (b :: r).take (k + 1) = b :: r.take k := rfl
    rw [e3, e4] at ih
    rw [e1, e2]
    show a ++ 32 :: joinSp (b :: r.take (k + 1)) = (a ++ 32 :: joinSp (b :: r.take k)) ++ 32 :: (a :: b :: r)[k + 2]
    rw [ih, List.append_assoc]
    rfl
theorem joinSp_one : ∀ (ss : List (List UInt8)) (h : 0 < ss.length), joinSp (ss.take 1) = ss[0]
  | [], h => by simp at h
  | a :: r, _ => rfl
theorem at_zero {α : Type} {l : List α} {x y : α} (h : l = [x]) (h0 : 0 < l.length) (hy : l[0] = y) : y = x := by subst h; exact hy.symm
theorem joinSp_take_len (l : List UInt8) (hl : l.length ≤ 1000000) (k : Nat) (hk : k ≤ (listP l).length) : (joinSp ((listP l).take k)).length ≤ 140737488355328 := by
  have h1 := joinSp_len l.length ((listP l).take k) (fun x hx => list_each l x (List.mem_of_mem_take hx))
  have h2 := list_count l
  have h5 : ((listP l).take k).length ≤ 2 * l.length + 1 := by rw [List.length_take]; omega
  have h3 : ((listP l).take k).length * (l.length + 1) ≤ (2 * l.length + 1) * (l.length + 1) := Nat.mul_le_mul_right _ h5
  have h4 : (2 * l.length + 1) * (l.length + 1) ≤ (2 * 1000000 + 1) * (1000000 + 1) := Nat.mul_le_mul (by omega) (by omega)
  omega
set_option maxRecDepth 100000 in
set_option maxHeartbeats 4000000 in
theorem rtext_any (l : List UInt8) (f : Nat) (w : World) (hl : l.length ≤ 1000000) (hf : f ≤ 100) :
    Calls Tryz.prog 98 #[.string (ba l), .int .i64 (f : Int)] w (LfPost w (textQ l f)) := by
  have HTX := Lib.hid (And.intro (@textQ_one l · f) (And.intro (@textQ_none l f) (@textQ_more l f)))
  have HLC := Lib.hid (show (listP l).length ≤ 2000001 by have := list_count l; omega)
  have HJT := Lib.hid (joinSp_take_len l hl)
  have HEA := Lib.hid (list_each l)
  obtain ⟨fi, hfi⟩ : ∃ x : Int, (f : Int) = x := ⟨_, rfl⟩
  have f0 : 0 ≤ fi := by omega
  have f1 : fi ≤ 100 := by omega
  have HFI := Lib.hid hfi
  rw [hfi]
  clear hfi
  go_enter Tryz.func98, Tryz.ntmps98
  go_wp2_with fail
  refine (rlist_any l _ (by omega)).mono ?_
  rintro e w1 ⟨v, rfl, hv, hb⟩
  have HB1 := Lib.hid ((qz_below w).trans (hb.mono (by simp)))
  have HZ1 := Lib.hid ((qzAt_new w).below hb (by simp))
  have z1 : w.heap.size < w1.heap.size := by have := hb.size; simp at this; omega
  obtain ⟨A, c, hvv, hc1, hc2, hst⟩ := hv.strs
  have HST := Lib.hid hst
  obtain ⟨r0, r1, r2, r3, r4, rf⟩ := HZ1.out.cells
  clear hb hv hst
  obtain ⟨N, hN⟩ : ∃ N, (listP l).length = N := ⟨_, rfl⟩
  have HN := Lib.hid hN
  simp only [hN] at hvv hc1
  have hnn : N ≤ 2000001 := by have := HLC.out; omega
  subst hvv
  clear hN
  by_cases h0 : N = 0
  · have HO := Lib.hid (HTX.out.2.1 (List.eq_nil_of_length_eq_zero (HN.out.trans h0)))
    subst h0
    go_wp2
    refine bodyPost_ret (v := .tuple #[.agg #[.int .i64 0, .int .i64 0, .string ⟨#[]⟩, .int .i64 0, .slice none 0 0], .bool false]) (by simp [results, Tryz.results98, go_sem, r0, r1, r2, r3, r4]) rfl ?_
    refine lf_none (t := []) HO.out rfl ?_ (leaf_ok (by omega) (by omega) (by omega))
    repeat (first | (with_reducible exact HB1.out) | refine Below.setCell ?_ (by simp) _)
  have hl0 : 0 < (listP l).length := by rw [HN.out]; omega
  have HJ1 := Lib.hid (joinSp_one (listP l) hl0)
  have HZE := Lib.hid (fun x y (h : listP l = [x]) => at_zero (y := y) h hl0)
  obtain ⟨ad, hA, hab, hc0⟩ := Strs.at_ HST.out (k := 0) hl0
  obtain ⟨x0, hx0⟩ : ∃ x, (listP l)[0] = x := ⟨_, rfl⟩
  simp only [hx0] at hc0 HJ1
  have HX0 := Lib.hid hx0
  clear hx0
  subst hA
  have e0 : ad.add 0 = ad := by unfold Addr.add; rw [if_pos rfl]
  rw [e0] at hc0
  clear e0
  by_cases h1 : N = 1
  · obtain ⟨x, hx⟩ := List.length_eq_one_iff.1 (HN.out.trans h1)
    have HO := Lib.hid (HTX.out.1 x hx)
    have hcx : w1.cell? ad = some (.string (ba x)) := by rw [hc0, HZE.out x x0 hx HX0.out]
    subst h1
    clear h0 hx hc0
    go_wp2
    refine bodyPost_ret (v := .tuple #[.agg #[.int .i64 2, .int .i64 fi, .string (ba x), .int .i64 0, .slice none 0 0], .bool true]) (by simp [results, Tryz.results98, go_sem, r0, r1, r2, r3, r4]) rfl ?_
    refine lf_some HO.out (by rw [HFI.out]) rfl ?_ (leaf_ok (by omega) (by omega) (by omega))
    repeat (first | (with_reducible exact HB1.out) | refine Below.setCell ?_ (by simp) _)
  · have HO := Lib.hid (HTX.out.2.2 (by rw [HN.out]; omega))
    have g1 : ((N : Int) == 1) = false := by simp; omega
    have g0 : ((N : Int) == 0) = false := by simp; omega
    have g3 : 0 < N := by omega
    clear h0 h1
    go_wp2
    go_loop [7, 8] (fun t i => ∃ k : Nat, 1 ≤ k ∧ k ≤ N ∧ i = .int .i64 (k : Int) ∧ t = .string (ba (joinSp ((listP l).take k)))) (fun _ i => N - (intOf i).toNat)
    case atStart => exact ⟨1, Nat.le_refl _, by omega, rfl, by rw [HJ1.out]⟩
    case round =>
      obtain ⟨k, hk1, hk, rfl, rfl⟩ := hrel
      by_cases hlt : k < N
      · have hk2 : (k : Int) < (N : Int) := by omega
        have hk0 : (0 : Int) ≤ (k : Int) := by omega
        have hkl : k < (listP l).length := by rw [HN.out]; exact hlt
        obtain ⟨ad', hA, _, hck⟩ := Strs.at_ HST.out hkl
        injection hA with hA
        subst hA
        have HSN := Lib.hid (joinSp_snoc (listP l) k hkl hk1)
        have hj := HJT.out k (by omega)
        have hx := HEA.out _ (List.getElem_mem hkl)
        obtain ⟨y, hy⟩ : ∃ y, (listP l)[k] = y := ⟨_, rfl⟩
        simp only [hy] at hck HSN hx
        obtain ⟨J, hJ⟩ : ∃ J, joinSp ((listP l).take k) = J := ⟨_, rfl⟩
        simp only [hJ] at HSN hj
        rw [hJ]
        have p1 : ¬ 9223372036854775807 < (ba J).size + 1 := by rw [ba_size]; omega
        have p2 : ¬ 9223372036854775807 < (ba J).size + 1 + (ba y).size := by rw [ba_size, ba_size]; omega
        have HCAT := Lib.hid (show ba J ++ ⟨#[32]⟩ ++ ba y = ba (J ++ (32 :: y)) by
          rw [show (⟨#[32]⟩ : ByteArray) = ba [32] from rfl, ba_append, ba_append, List.append_assoc]
          rfl)
        clear hy hJ hkl
        go_wp2
        go_round
        case rel => exact ⟨k + 1, by omega, by omega, by go_num, by rw [HCAT.out, HSN.out]⟩
        case measure => simp [intOf] <;> omega
      · obtain rfl : k = N := by omega
        have HJA := Lib.hid (show joinSp ((listP l).take k) = joinSp (listP l) by rw [List.take_of_length_le (by rw [HN.out]; exact Nat.le_refl _)])
        go_wp2
        refine bodyPost_ret (v := .tuple #[.agg #[.int .i64 3, .int .i64 fi, .string (ba (joinSp ((listP l).take k))), .int .i64 0, .slice none 0 0], .bool true]) (by simp [results, Tryz.results98, go_sem, r0, r1, r2, r3, r4]) rfl ?_
        refine lf_some HO.out (by rw [HFI.out, HJA.out]) rfl ?_ (leaf_ok (by omega) (by omega) (by omega))
        repeat (first | (with_reducible exact HB1.out) | refine Below.setCell ?_ (by simp) _)
theorem last_at {l : List UInt8} (h : 0 < l.length) : l.getLast? = some (l[l.length - 1]'(by omega)) := by rw [List.getLast?_eq_getElem?, List.getElem?_eq_getElem (by omega)]
set_option maxRecDepth 100000 in
set_option maxHeartbeats 4000000 in
theorem rplain_any (l : List UInt8) (f : Nat) (w : World) (hl : l.length ≤ 1000000) (hf : f ≤ 100) :
    Calls Tryz.prog 99 #[.string (ba l), .int .i64 (f : Int)] w (LfPost w (plainQ l f)) := by
  have HTX := Lib.hid (fun W => rtext_any l f W hl hf)
  obtain ⟨fi, hfi⟩ : ∃ x : Int, (f : Int) = x := ⟨_, rfl⟩
  have f0 : 0 ≤ fi := by omega
  have f1 : fi ≤ 100 := by omega
  have HFI := Lib.hid hfi
  simp only [hfi] at HTX
  rw [hfi]
  clear hfi
  have HZ0 := Lib.hid (qzAt_new w)
  by_cases hs : l.getLast? = some 42
  · have HLI := Lib.hid (fun W => rlist_any l.dropLast W (by rw [List.length_dropLast]; omega))
    have HP1 := Lib.hid (fun x (h : listP l.dropLast = [x]) => plainQ_star (f := f) hs h)
    have HP2 := Lib.hid (fun (h : (listP l.dropLast).length ≠ 1) => plainQ_many (f := f) hs h)
    have hl0 : 0 < l.length := by
      cases l with
      | nil => cases hs
      | cons a r => simp
    have hla := last_at hl0
    rw [hs] at hla
    injection hla with hla
    obtain ⟨n, hn⟩ : ∃ n, l.length = n := ⟨_, rfl⟩
    have HCU := Lib.hid (show (ba l).extract 0 (l.length - 1) = ba l.dropLast by rw [ba_cut, List.drop_zero, List.dropLast_eq_take])
    have gz : (ba l).toList.isEmpty = false := by
      rw [ba_toList]
      cases l with
      | nil => simp at hl0
      | cons a r => rfl
    obtain ⟨s, hss⟩ : ∃ s, ba l = s := ⟨_, rfl⟩
    have hsz : (s.size : Int) = n := by rw [← hss, ba_size, hn]
    have ks : l.length - 1 < s.size := by rw [← hss, ba_size]; omega
    have kg : (((s[l.length - 1]'ks)).toNat : Int) = 42 := by
      subst hss
      have : (ba l)[l.length - 1]'ks = l[l.length - 1]'(by omega) := rfl
      rw [this, ← hla]
      rfl
    simp only [hss] at HTX gz HCU
    rw [hss]
    obtain ⟨ks2, kg2⟩ : ∃ h : n - 1 < s.size, ((s[n - 1]'h).toNat : Int) = 42 := by subst hn; exact ⟨ks, kg⟩
    simp only [hn] at HCU hl0
    clear kg ks
    have hn6 : n ≤ 1000000 := by omega
    have k0 : (0 : Int) ≤ (n : Int) - 1 := by omega
    have k1 : (n : Int) - 1 < (n : Int) := by omega
    have k2 : (n : Int) - 1 ≤ (n : Int) := by omega
    have k3 : ((n : Int) - 1).toNat = n - 1 := by omega
    clear hs hla hss hn
    go_enter Tryz.func99, Tryz.ntmps99
    go_wp2_with fail
    rw [HCU.out]
    refine (HLI.out _).mono ?_
    rintro e w1 ⟨v, rfl, hv, hb⟩
    have HB1 := Lib.hid ((qz_below w).trans (hb.mono (by simp)))
    have HZ1 := Lib.hid (HZ0.out.below hb (by simp))
    have z1 : w.heap.size < w1.heap.size := by have := hb.size; simp at this; omega
    clear hb
    by_cases h1 : (listP l.dropLast).length = 1
    · obtain ⟨x, hx⟩ := List.length_eq_one_iff.1 h1
      have HO := Lib.hid (HP1.out x hx)
      rw [hx] at hv
      obtain ⟨ad, c, rfl, hc1, hab, hcell⟩ := hv.cell0
      clear hx h1 hv
      obtain ⟨r0, r1, r2, r3, r4, rf⟩ := HZ1.out.cells
      go_wp2
      refine bodyPost_ret (v := .tuple #[.agg #[.int .i64 4, .int .i64 fi, .string (ba x), .int .i64 0, .slice none 0 0], .bool true]) (by simp [results, Tryz.results99, go_sem, r0, r1, r2, r3, r4]) rfl ?_
      refine lf_some HO.out (by rw [HFI.out]) rfl ?_ (leaf_ok (by omega) (by omega) (by omega))
      repeat (first | (with_reducible exact HB1.out) | refine Below.setCell ?_ (by simp) _)
    · have HO := Lib.hid (HP2.out h1)
      obtain ⟨A, c, rfl, hc1, hc2, hst⟩ := hv.strs
      have g1 : (((listP l.dropLast).length : Int) == 1) = false := by simp; omega
      clear hst hv
      go_wp2_with fail
      refine (HTX.out w1).mono ?_
      rintro e w2 ⟨op, fld, t, m, rfl, hb2, hq, hk⟩
      have HB2 := Lib.hid (HB1.out.trans (hb2.mono HB1.out.size))
      have HZ2 := Lib.hid (HZ1.out.below hb2 z1)
      have HQ := Lib.hid hq
      have HK := Lib.hid hk
      clear hb2 hq hk
      obtain ⟨r0, r1, r2, r3, r4, rf⟩ := HZ2.out.cells
      go_wp2
      refine bodyPost_ret (v := .tuple #[.agg #[.int .i64 op, .int .i64 fld, .string (ba t), .int .i64 m, .slice none 0 0], .bool (textQ l f).isSome]) (by simp [results, Tryz.results99, go_sem, r0, r1, r2, r3, r4]) rfl ?_
      refine lf_end (fun q h => HQ.out q (HO.out.symm.trans h)) (by rw [HO.out]) rfl ?_ HK.out
      repeat (first | (with_reducible exact HB2.out) | refine Below.setCell ?_ (by simp) _)
  · have HO := Lib.hid (plainQ_no (f := f) hs)
    by_cases hl0 : l.length = 0
    · have gz : (ba l).toList.isEmpty = true := by rw [ba_toList, List.eq_nil_of_length_eq_zero hl0]; rfl
      clear hs hl0
      go_enter Tryz.func99, Tryz.ntmps99
      go_wp2_with fail
      refine (HTX.out _).mono ?_
      rintro e w2 ⟨op, fld, t, m, rfl, hb2, hq, hk⟩
      have HB2 := Lib.hid ((qz_below w).trans (hb2.mono (by simp)))
      have HZ2 := Lib.hid (HZ0.out.below hb2 (by simp))
      have HQ := Lib.hid hq
      have HK := Lib.hid hk
      clear hb2 hq hk
      obtain ⟨r0, r1, r2, r3, r4, rf⟩ := HZ2.out.cells
      go_wp2
      refine bodyPost_ret (v := .tuple #[.agg #[.int .i64 op, .int .i64 fld, .string (ba t), .int .i64 m, .slice none 0 0], .bool (textQ l f).isSome]) (by simp [results, Tryz.results99, go_sem, r0, r1, r2, r3, r4]) rfl ?_
      refine lf_end (fun q h => HQ.out q (HO.out.symm.trans h)) (by rw [HO.out]) rfl ?_ HK.out
      repeat (first | (with_reducible exact HB2.out) | refine Below.setCell ?_ (by simp) _)
    · have hla := last_at (l := l) (by omega)
      obtain ⟨n, hn⟩ : ∃ n, l.length = n := ⟨_, rfl⟩
      have gz : (ba l).toList.isEmpty = false := by
        rw [ba_toList]
        cases l with
        | nil => exact absurd rfl hl0
        | cons a r => rfl
      obtain ⟨s, hss⟩ : ∃ s, ba l = s := ⟨_, rfl⟩
      have hsz : (s.size : Int) = n := by rw [← hss, ba_size, hn]
      have ks : l.length - 1 < s.size := by rw [← hss, ba_size]; omega
      obtain ⟨y, hy⟩ : ∃ y : Int, (((s[l.length - 1]'ks)).toNat : Int) = y := ⟨_, rfl⟩
      have kg : (y == 42) = false := by
        simp only [beq_eq_false_iff_ne]
        rintro rfl
        subst hss
        have e1 : (ba l)[l.length - 1]'ks = l[l.length - 1]'(by omega) := rfl
        rw [e1] at hy
        refine hs (hla.trans (congrArg some (UInt8.toNat_inj.1 ?_)))
        show _ = 42
        omega
      simp only [hss] at HTX gz
      rw [hss]
      obtain ⟨ks2, kg2⟩ : ∃ h : n - 1 < s.size, ((s[n - 1]'h).toNat : Int) = y := by subst hn; exact ⟨ks, hy⟩
      simp only [hn] at hl0
      clear hy ks
      have hn6 : n ≤ 1000000 := by omega
      have k0 : (0 : Int) ≤ (n : Int) - 1 := by omega
      have k1 : (n : Int) - 1 < (n : Int) := by omega
      have k3 : ((n : Int) - 1).toNat = n - 1 := by omega
      clear hs hla hss hn hl0
      go_enter Tryz.func99, Tryz.ntmps99
      go_wp2_with fail
      refine (HTX.out _).mono ?_
      rintro e w2 ⟨op, fld, t, m, rfl, hb2, hq, hk⟩
      have HB2 := Lib.hid ((qz_below w).trans (hb2.mono (by simp)))
      have HZ2 := Lib.hid (HZ0.out.below hb2 (by simp))
      have HQ := Lib.hid hq
      have HK := Lib.hid hk
      clear hb2 hq hk
      obtain ⟨r0, r1, r2, r3, r4, rf⟩ := HZ2.out.cells
      go_wp2
      refine bodyPost_ret (v := .tuple #[.agg #[.int .i64 op, .int .i64 fld, .string (ba t), .int .i64 m, .slice none 0 0], .bool (textQ l f).isSome]) (by simp [results, Tryz.results99, go_sem, r0, r1, r2, r3, r4]) rfl ?_
      refine lf_end (fun q h => HQ.out q (HO.out.symm.trans h)) (by rw [HO.out]) rfl ?_ HK.out
      repeat (first | (with_reducible exact HB2.out) | refine Below.setCell ?_ (by simp) _)
end Go.Proofs.YtomcdhmcjndioaaGreatDoor
end
section
namespace Go.Proofs.YtomcdhmcjndioaaGreatDoor
open Go.RowKit
set_option linter.unusedVariables false

set_option maxRecDepth 100000 in
set_option maxHeartbeats 4000000 in
theorem rsize_any (l : List UInt8) (w : World) (hl : l.length ≤ 1000000) :
    Calls Tryz.prog 119 #[.string (ba l)] w (SzPost w (sizeQ l)) := by
  have HNP := Lib.hid (fun x (hx : x.length ≤ 1000000) W => rparse0_any x 1048576 W (by omega) (by omega) (by omega))
  unfold ParsePost at HNP
  by_cases hl0 : l.length = 0
  · have gz : (ba l).toList.isEmpty = true := by rw [ba_toList, List.eq_nil_of_length_eq_zero hl0]; rfl
    have hnil := List.eq_nil_of_length_eq_zero hl0
    have HXX := Lib.hid (show (if 1 < timesQ l then l.dropLast else l) = l by rw [hnil]; rfl)
    have HTI := Lib.hid (show timesQ l = 1 by rw [hnil]; rfl)
    clear hnil hl0
    cases hd : decP l 0 1048576 with
    | none =>
      have HR := Lib.hid (size_none HXX.out hd)
      have HD := Lib.hid hd
      clear hd
      go_enter Tryz.func119, Tryz.ntmps119
      go_wp2_with fail
      refine (HNP.out l (by exact hl) w).mono ?_
      rintro e w1 ⟨rfl, hb⟩
      have HB := Lib.hid hb
      clear hb
      rw [HD.out]
      go_wp2
      go_ret
      exact sz_none HR.out HB.out
    | some v =>
      have HR := Lib.hid (size_some HXX.out HTI.out hd)
      have HD := Lib.hid hd
      obtain ⟨v0, v1⟩ := decP_bd hd
      clear hd
      go_enter Tryz.func119, Tryz.ntmps119
      go_wp2_with fail
      refine (HNP.out l (by exact hl) w).mono ?_
      rintro e w1 ⟨rfl, hb⟩
      have HB := Lib.hid hb
      clear hb
      rw [HD.out]
      go_wp2
      go_ret
      exact sz_some (HR.out.trans (congrArg some (by omega))) HB.out
  · have hla := lastQ (l := l) (by omega)
    obtain ⟨n, hn⟩ : ∃ n, l.length = n := ⟨_, rfl⟩
    have gz : (ba l).toList.isEmpty = false := by
      rw [ba_toList]
      cases l with
      | nil => exact absurd rfl hl0
      | cons a r => rfl
    have HCU := Lib.hid (show (ba l).extract 0 (n - 1) = ba l.dropLast by rw [ba_cut, List.drop_zero, List.dropLast_eq_take, hn])
    obtain ⟨c, hc⟩ : ∃ c, l[l.length - 1]'(by omega) = c := ⟨_, rfl⟩
    rw [hc] at hla
    have HTM := Lib.hid (times_last hla)
    obtain ⟨s, hss⟩ : ∃ s, ba l = s := ⟨_, rfl⟩
    have hsz : (s.size : Int) = n := by rw [← hss, ba_size, hn]
    obtain ⟨x, hx⟩ : ∃ x : Int, (c.toNat : Int) = x := ⟨_, rfl⟩
    obtain ⟨ks, kg⟩ : ∃ h : n - 1 < s.size, ((s[n - 1]'h).toNat : Int) = x := by
      subst hn
      refine ⟨by rw [← hss, ba_size]; omega, ?_⟩
      subst hss
      rw [← hx, ← hc]
      rfl
    simp only [hss] at gz HCU
    have hn6 : n ≤ 1000000 := by omega
    have hn1 : 1 ≤ n := by omega
    have k0 : (0 : Int) ≤ (n : Int) - 1 := by omega
    have k1 : (n : Int) - 1 < (n : Int) := by omega
    have k2 : (n : Int) - 1 ≤ (n : Int) := by omega
    have k3 : ((n : Int) - 1).toNat = n - 1 := by omega
    have x0 : 0 ≤ x := by omega
    have x1 : x ≤ 255 := by have := c.toNat_lt; omega
    have HX := Lib.hid hx
    have HSS := Lib.hid hss
    rw [hss]
    clear hla hc hss hn hx hl0
    have HUC := Lib.hid (fun d : UInt8 => u8_int_eq' (c := c) (d := d))
    by_cases ck : c = 75 ∨ c = 107
    · rcases ck with h | h
      · obtain rfl : x = 75 := by rw [← HX.out, h]; rfl
        have HTI := Lib.hid (show timesQ l = 1024 by rw [HTM.out, h]; rfl)
        have HXX := Lib.hid (show (if 1 < timesQ l then l.dropLast else l) = l.dropLast by rw [HTI.out]; rfl)
        clear h
        cases hd : decP l.dropLast 0 1048576 with
        | none =>
          have HR := Lib.hid (size_none HXX.out hd)
          have HD := Lib.hid hd
          clear hd
          go_enter Tryz.func119, Tryz.ntmps119
          go_wp2_with fail
          rw [HCU.out]
          refine (HNP.out l.dropLast (by rw [List.length_dropLast]; omega) w).mono ?_
          rintro e w1 ⟨rfl, hb⟩
          have HB := Lib.hid hb
          clear hb
          rw [HD.out]
          go_wp2
          go_ret
          exact sz_none HR.out HB.out
        | some v =>
          have HR := Lib.hid (size_some HXX.out HTI.out hd)
          have HD := Lib.hid hd
          obtain ⟨v0, v1⟩ := decP_bd hd
          clear hd
          go_enter Tryz.func119, Tryz.ntmps119
          go_wp2_with fail
          rw [HCU.out]
          refine (HNP.out l.dropLast (by rw [List.length_dropLast]; omega) w).mono ?_
          rintro e w1 ⟨rfl, hb⟩
          have HB := Lib.hid hb
          clear hb
          rw [HD.out]
          go_wp2
          go_ret
          exact sz_some (HR.out.trans (congrArg some (by omega))) HB.out
      · obtain rfl : x = 107 := by rw [← HX.out, h]; rfl
        have HTI := Lib.hid (show timesQ l = 1024 by rw [HTM.out, h]; rfl)
        have HXX := Lib.hid (show (if 1 < timesQ l then l.dropLast else l) = l.dropLast by rw [HTI.out]; rfl)
        clear h
        cases hd : decP l.dropLast 0 1048576 with
        | none =>
          have HR := Lib.hid (size_none HXX.out hd)
          have HD := Lib.hid hd
          clear hd
          go_enter Tryz.func119, Tryz.ntmps119
          go_wp2_with fail
          rw [HCU.out]
          refine (HNP.out l.dropLast (by rw [List.length_dropLast]; omega) w).mono ?_
          rintro e w1 ⟨rfl, hb⟩
          have HB := Lib.hid hb
          clear hb
          rw [HD.out]
          go_wp2
          go_ret
          exact sz_none HR.out HB.out
        | some v =>
          have HR := Lib.hid (size_some HXX.out HTI.out hd)
          have HD := Lib.hid hd
          obtain ⟨v0, v1⟩ := decP_bd hd
          clear hd
          go_enter Tryz.func119, Tryz.ntmps119
          go_wp2_with fail
          rw [HCU.out]
          refine (HNP.out l.dropLast (by rw [List.length_dropLast]; omega) w).mono ?_
          rintro e w1 ⟨rfl, hb⟩
          have HB := Lib.hid hb
          clear hb
          rw [HD.out]
          go_wp2
          go_ret
          exact sz_some (HR.out.trans (congrArg some (by omega))) HB.out
    · by_cases cm : c = 77 ∨ c = 109
      · rcases cm with h | h
        · obtain rfl : x = 77 := by rw [← HX.out, h]; rfl
          have HTI := Lib.hid (show timesQ l = 1048576 by rw [HTM.out, h]; rfl)
          have HXX := Lib.hid (show (if 1 < timesQ l then l.dropLast else l) = l.dropLast by rw [HTI.out]; rfl)
          clear h
          cases hd : decP l.dropLast 0 1048576 with
          | none =>
            have HR := Lib.hid (size_none HXX.out hd)
            have HD := Lib.hid hd
            clear hd
            go_enter Tryz.func119, Tryz.ntmps119
            go_wp2_with fail
            rw [HCU.out]
            refine (HNP.out l.dropLast (by rw [List.length_dropLast]; omega) w).mono ?_
            rintro e w1 ⟨rfl, hb⟩
            have HB := Lib.hid hb
            clear hb
            rw [HD.out]
            go_wp2
            go_ret
            exact sz_none HR.out HB.out
          | some v =>
            have HR := Lib.hid (size_some HXX.out HTI.out hd)
            have HD := Lib.hid hd
            obtain ⟨v0, v1⟩ := decP_bd hd
            clear hd
            go_enter Tryz.func119, Tryz.ntmps119
            go_wp2_with fail
            rw [HCU.out]
            refine (HNP.out l.dropLast (by rw [List.length_dropLast]; omega) w).mono ?_
            rintro e w1 ⟨rfl, hb⟩
            have HB := Lib.hid hb
            clear hb
            rw [HD.out]
            go_wp2
            go_ret
            exact sz_some (HR.out.trans (congrArg some (by omega))) HB.out
        · obtain rfl : x = 109 := by rw [← HX.out, h]; rfl
          have HTI := Lib.hid (show timesQ l = 1048576 by rw [HTM.out, h]; rfl)
          have HXX := Lib.hid (show (if 1 < timesQ l then l.dropLast else l) = l.dropLast by rw [HTI.out]; rfl)
          clear h
          cases hd : decP l.dropLast 0 1048576 with
          | none =>
            have HR := Lib.hid (size_none HXX.out hd)
            have HD := Lib.hid hd
            clear hd
            go_enter Tryz.func119, Tryz.ntmps119
            go_wp2_with fail
            rw [HCU.out]
            refine (HNP.out l.dropLast (by rw [List.length_dropLast]; omega) w).mono ?_
            rintro e w1 ⟨rfl, hb⟩
            have HB := Lib.hid hb
            clear hb
            rw [HD.out]
            go_wp2
            go_ret
            exact sz_none HR.out HB.out
          | some v =>
            have HR := Lib.hid (size_some HXX.out HTI.out hd)
            have HD := Lib.hid hd
            obtain ⟨v0, v1⟩ := decP_bd hd
            clear hd
            go_enter Tryz.func119, Tryz.ntmps119
            go_wp2_with fail
            rw [HCU.out]
            refine (HNP.out l.dropLast (by rw [List.length_dropLast]; omega) w).mono ?_
            rintro e w1 ⟨rfl, hb⟩
            have HB := Lib.hid hb
            clear hb
            rw [HD.out]
            go_wp2
            go_ret
            exact sz_some (HR.out.trans (congrArg some (by omega))) HB.out
      · have HTI := Lib.hid (show timesQ l = 1 by rw [HTM.out, if_neg ck, if_neg cm])
        have HXX := Lib.hid (show (if 1 < timesQ l then l.dropLast else l) = l by rw [HTI.out]; rfl)
        have n75 : (x == 75) = false := by
          simp only [beq_eq_false_iff_ne]
          exact fun h => ck (.inl ((HUC.out 75).1 (by rw [HX.out, h]; rfl)))
        have n107 : (x == 107) = false := by
          simp only [beq_eq_false_iff_ne]
          exact fun h => ck (.inr ((HUC.out 107).1 (by rw [HX.out, h]; rfl)))
        have n77 : (x == 77) = false := by
          simp only [beq_eq_false_iff_ne]
          exact fun h => cm (.inl ((HUC.out 77).1 (by rw [HX.out, h]; rfl)))
        have n109 : (x == 109) = false := by
          simp only [beq_eq_false_iff_ne]
          exact fun h => cm (.inr ((HUC.out 109).1 (by rw [HX.out, h]; rfl)))
        clear ck cm
        cases hd : decP l 0 1048576 with
        | none =>
          have HR := Lib.hid (size_none HXX.out hd)
          have HD := Lib.hid hd
          clear hd
          go_enter Tryz.func119, Tryz.ntmps119
          go_wp2_with fail
          rw [← HSS.out]
          refine (HNP.out l (by exact hl) w).mono ?_
          rintro e w1 ⟨rfl, hb⟩
          have HB := Lib.hid hb
          clear hb
          rw [HD.out]
          go_wp2
          go_ret
          exact sz_none HR.out HB.out
        | some v =>
          have HR := Lib.hid (size_some HXX.out HTI.out hd)
          have HD := Lib.hid hd
          obtain ⟨v0, v1⟩ := decP_bd hd
          clear hd
          go_enter Tryz.func119, Tryz.ntmps119
          go_wp2_with fail
          rw [← HSS.out]
          refine (HNP.out l (by exact hl) w).mono ?_
          rintro e w1 ⟨rfl, hb⟩
          have HB := Lib.hid hb
          clear hb
          rw [HD.out]
          go_wp2
          go_ret
          exact sz_some (HR.out.trans (congrArg some (by omega))) HB.out
end Go.Proofs.YtomcdhmcjndioaaGreatDoor
end
