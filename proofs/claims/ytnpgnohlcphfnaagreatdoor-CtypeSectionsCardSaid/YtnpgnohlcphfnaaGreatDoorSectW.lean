/- CtypeSections: the walk. -/
import Derived.Test.YtnpgnohlcphfnaaGreatDoorSectE
import Derived.Test.YtnpgnohlcphfnaaGreatDoorM17
import Derived.Deep.RegionHeld3
namespace Go.Proofs.YtnpgnohlcphfnaaGreatDoor
open Go.RowKit
set_option linter.unusedVariables false

def secX (i : Nat) (c : List UInt8) : List UInt8 := [59, 32, 110, 42] ++ digT i ++ [42, 61] ++ secTag i ++ encH c
theorem secX_eq (i : Nat) (c : List UInt8) : secX i c = 59 :: 32 :: secTxt (i, c) := by
  unfold secX secTxt secName
  simp
theorem secX_len {i : Nat} {c : List UInt8} (hc : c.length ≤ 300) : (secX i c).length ≤ 1000 := by
  have h1 : (digT i).length ≤ 2 := by unfold digT; split <;> simp
  have h2 : (secTag i).length ≤ 9 := by unfold secTag; split <;> simp
  unfold secX
  rw [List.length_append, List.length_append, List.length_append, List.length_append, encH_len]
  have h3 : ([59, 32, 110, 42] : List UInt8).length = 4 := rfl
  have h4 : ([42, 61] : List UInt8).length = 2 := rfl
  omega
/-- What the loop over the cuts has built. -/
structure ScRel (w : World) (v : List UInt8) (m i a : Nat) (r : ByteArray) (wr : World) : Prop where
  sec : ∃ (cs : List (List UInt8)) (L : List (Nat × List UInt8)), cs.length = i ∧ cs.flatten = v.take a ∧ (∀ k c, (k, c) ∈ L ↔ cs[k]? = some c) ∧ r = ba (rowsS L)
  le : a ≤ v.length
  size : r.size ≤ i * 1000
  fin : i = m + 1 → a = v.length
  bel : Below w.heap.size w wr
theorem sc_mem {cs : List (List UInt8)} {L : List (Nat × List UInt8)} {c : List UInt8} (h : ∀ k x, (k, x) ∈ L ↔ cs[k]? = some x) (k : Nat) (x : List UInt8) : ((k, x) ∈ L ∨ (k, x) = (cs.length, c)) ↔ (cs ++ [c])[k]? = some x := by
  rw [h, List.getElem?_append]
  by_cases hk : k < cs.length
  · rw [if_pos hk]
    constructor
    · rintro (h | h)
      · exact h
      · injection h with h1 h2; omega
    · exact .inl
  · rw [if_neg hk, List.getElem?_eq_none (by omega)]
    by_cases e : k = cs.length
    · subst e
      simp only [Nat.sub_self, List.getElem?_cons_zero, Option.some.injEq, Prod.mk.injEq, true_and, reduceCtorEq, false_or]
      exact eq_comm
    · have h1 : ([c] : List (List UInt8))[k - cs.length]? = none := List.getElem?_eq_none (by simp; omega)
      rw [h1]
      simp [e]
theorem sc_step {w wr : World} {v : List UInt8} {m i a b : Nat} {r : ByteArray} (hv : v.length ≤ 300) (h : ScRel w v m i a r wr) (hab : a ≤ b) (hb : b ≤ v.length) (hf : i = m → b = v.length) (hi : i ≤ m) :
    (∀ W, Below w.heap.size w W → ScRel w v m (i + 1) b (r ++ ba (secX i ((v.drop a).take (b - a)))) W) ∧ (∀ W, Below w.heap.size w W → ScRel w v m (i + 1) b (ba (secX i ((v.drop a).take (b - a))) ++ r) W) := by
  obtain ⟨cs, L, h1, h2, h3, h4⟩ := h.sec
  have hx : (secX i ((v.drop a).take (b - a))).length ≤ 1000 := secX_len (by rw [List.length_take, List.length_drop]; omega)
  have hfl : (cs ++ [(v.drop a).take (b - a)]).flatten = v.take b := by
    rw [List.flatten_append, h2, List.flatten_cons, List.flatten_nil, List.append_nil]
    have e : b = a + (b - a) := by omega
    conv => rhs; rw [e, List.take_add]
  have hs := h.size
  have hm : (i + 1) * 1000 = i * 1000 + 1000 := Nat.succ_mul i 1000
  constructor
  · intro W hW
    refine ⟨⟨cs ++ [_], L ++ [(i, (v.drop a).take (b - a))], by simp [h1], hfl, fun k c => ?_, ?_⟩, hb, ?_, fun e => hf (by omega), hW⟩
    · rw [List.mem_append, List.mem_singleton, ← h1]
      exact sc_mem h3 k c
    · rw [h4, ba_append]
      unfold rowsS
      rw [List.flatMap_append, secX_eq]
      simp
    · rw [ByteArray.size_append, ba_size]; omega
  · intro W hW
    refine ⟨⟨cs ++ [_], (i, (v.drop a).take (b - a)) :: L, by simp [h1], hfl, fun k c => ?_, ?_⟩, hb, ?_, fun e => hf (by omega), hW⟩
    · rw [List.mem_cons, ← h1, or_comm]
      exact sc_mem h3 k c
    · rw [h4, ba_append, secX_eq]
      rfl
    · rw [ByteArray.size_append, ba_size]; omega
theorem sc_end {w wr : World} {v : List UInt8} {m : Nat} {r : ByteArray} {a : Nat} (hm : m ≤ 10) (h : ScRel w v m (m + 1) a r wr) : ∃ l, ⟨#[97, 47, 98]⟩ ++ r = ba l ∧ l.length ≤ 100000 ∧ parseT l = (⟨[97], [98], [([110], repairP v)]⟩, true) := by
  obtain ⟨cs, L, h1, h2, h3, h4⟩ := h.sec
  rw [h.fin rfl, List.take_length] at h2
  have hS : Sects cs L := ⟨fun e => by rw [e] at h1; simp at h1, by omega, h3⟩
  have hp := sect_parse hS
  rw [h2] at hp
  refine ⟨_, ?_, ?_, hp⟩
  · rw [h4, ← ba_append]
    rfl
  · have hs := h.size
    rw [h4, ba_size] at hs
    rw [List.length_append]
    have : ([97, 47, 98] : List UInt8).length = 3 := rfl
    omega
set_option maxRecDepth 100000 in
set_option maxHeartbeats 4000000 in
theorem sections_any (v : List UInt8) (z : List Int) (A : Option Addr) (m c : Nat) (rnd : Bool) (w : World) (hv0 : v.length ≤ 9223372036854775807) (hZ : Ints w w.heap.size A m z) (hm0 : m ≤ 9223372036854775807) (hT : Tabs w) :
    Calls Tryz.prog 5 #[.string (ba v), .slice A m c, .bool rnd] w (LTrue w) := by
  have HSM := Lib.hid (lsmall_any w hT)
  have HZ0 := Lib.hid hZ
  have HT0 := Lib.hid hT
  unfold LTrue at HSM
  clear hZ hT
  have HST := Lib.hid (fun (hv : v.length ≤ 300) w1 wr i a b r (h : ScRel w1 v m i a r wr) hab hb hf hi => sc_step (b := b) hv h hab hb hf hi)
  have HEN := Lib.hid (fun (hm : m ≤ 10) w1 wr r a (h : ScRel w1 v m (m + 1) a r wr) => sc_end hm h)
  have HES := Lib.hid (fun (hv : v.length ≤ 300) a b W => escaped_any ((v.drop a).take (b - a)) W (by rw [List.length_take, List.length_drop]; omega))
  have HSUB := Lib.hid (show ∀ a b, a ≤ b → b ≤ v.length → (ba v).extract a b = ba ((v.drop a).take (b - a)) from fun a b _ _ => by
    unfold ba
    apply ByteArray.ext
    simp)
  have HRP := Lib.hid (fun (hv : v.length ≤ 300) W hW => repair_any v W (by omega) hW)
  have hLE := fun (w1 wr : World) i a r (h : ScRel w1 v m i a r wr) => h.le
  have HLE := Lib.hid hLE
  clear hLE
  obtain ⟨n, hn⟩ : ∃ n, v.length = n := ⟨_, rfl⟩
  have HL := Lib.hid hn
  obtain ⟨s, hs⟩ : ∃ s, ba v = s := ⟨_, rfl⟩
  have HZS := Lib.hid (show s.size = n by rw [← hs, ba_size, hn])
  have hsz : (s.size : Int) = n := by rw [HZS.out]
  rw [hn] at hv0
  rw [hs] at HSUB ⊢
  simp only [hs] at HRP
  clear hs hn
  go_enter Tryz.func5, Tryz.ntmps5
  go_wp2_with fail
  refine HSM.out.mono ?_
  rintro e w1 ⟨rfl, hb1⟩
  have HB1 := Lib.hid hb1
  have HT1 := Lib.hid (HT0.out.below hb1)
  have HZ1 := Lib.hid ((HZ0.out.below hb1).more hb1.size)
  clear hb1 HSM HT0 HZ0
  by_cases hn3 : 300 < n
  · have hn3i : (300 : Int) < (n : Int) := by omega
    go_wp2
    go_ret
    exact ⟨rfl, HB1.out⟩
  · have hn3i : ¬ (300 : Int) < (n : Int) := by omega
    by_cases hm1 : 10 < m
    · have hm1i : (10 : Int) < (m : Int) := by omega
      go_wp2
      go_ret
      exact ⟨rfl, HB1.out⟩
    · have hm1i : ¬ (10 : Int) < (m : Int) := by omega
      have HV3 := Lib.hid (show v.length ≤ 300 by rw [HL.out]; omega)
      go_wp2
      go_loopw [8, 9, 10, 11, 12, 13] (fun at_ ro nn ii to_ row wr => ∃ (i a : Nat) (r : ByteArray) (y q : Value), i ≤ m + 1 ∧ at_ = .int .i64 (a : Int) ∧ ro = .string r ∧ nn = .int .i64 (i : Int) ∧ ii = .int .i64 (i : Int) ∧ to_ = y ∧ row = q ∧ Hid (ScRel w1 v m i a r wr)) (fun _ _ _ ii _ _ _ => m + 1 - (intOf ii).toNat)
      case atStart => exact ⟨0, 0, _, _, _, Nat.zero_le _, rfl, rfl, rfl, rfl, rfl, rfl, Lib.hid ⟨⟨[], [], rfl, by simp, by simp, by unfold rowsS ba; rfl⟩, Nat.zero_le _, Nat.zero_le _, (fun h => by omega), Below.refl _ _⟩⟩
      case round =>
        obtain ⟨i, a, r, y, q, hi, rfl, rfl, rfl, rfl, rfl, rfl, HR⟩ := hrel
        have HBr := Lib.hid HR.out.bel
        have han : a ≤ n := by rw [← HL.out]; exact HR.out.le
        have hrs := HR.out.size
        by_cases hlt : i ≤ m
        · have hii : (i : Int) ≤ (m : Int) := by omega
          obtain ⟨x, hx⟩ : ∃ x, gi z i = x := ⟨_, rfl⟩
          obtain ⟨b, hb⟩ : ∃ b : Nat, (if i < m then (min (max x (a : Int)) (n : Int)).toNat else n) = b := ⟨_, rfl⟩
          have hab : a ≤ b := by
            rw [← hb]
            split <;> omega
          have hbn : b ≤ n := by
            rw [← hb]
            split <;> omega
          have hbm : i = m → b = n := fun e => by rw [← hb, if_neg (by omega)]
          have HBM := Lib.hid hbm
          have HBX := Lib.hid (show i < m → min (max x (a : Int)) (n : Int) = (b : Int) from fun h => by rw [← hb, if_pos h]; omega)
          have HBY := Lib.hid (show ¬ i < m → n = b from fun h => by rw [← hb, if_neg h])
          have HAT := Lib.hid (fun (h : i < m) => (HZ1.out.below HBr.out).at_ h)
          have HBO := Lib.hid (HZ1.out.bounds i)
          rw [hx] at HAT HBO
          obtain ⟨C, hC⟩ : ∃ C, (v.drop a).take (b - a) = C := ⟨_, rfl⟩
          have HNX0 := Lib.hid (HST.out HV3.out w1 wr i a b r HR.out hab (by rw [HL.out]; exact hbn) (fun e => by rw [HL.out]; exact hbm e) hlt)
          have HEC := Lib.hid (fun W => HES.out HV3.out a b W)
          have HSB := Lib.hid (HSUB.out a b hab (by rw [HL.out]; exact hbn))
          rw [hC] at HNX0 HSB
          simp only [hC] at HEC
          rw [← HSB.out] at HEC
          unfold StrB at HEC
          have hCl : C.length ≤ 300 := by rw [← hC, List.length_take, List.length_drop]; have := HV3.out; omega
          have hi11 : i < 11 := by omega
          have HTX := Lib.hid (fun W => text_any i hi11 W)
          have HSX := Lib.hid (show ba (secX i C) = ⟨#[59, 32, 110, 42]⟩ ++ ba (digT i) ++ ⟨#[42, 61]⟩ ++ ba (secTag i) ++ ba (encH C) from by
            unfold secX
            rw [← ba_append, ← ba_append, ← ba_append, ← ba_append]
            rfl)
          have hdl : (ba (digT i)).size ≤ 2 := by rw [ba_size]; unfold digT; split <;> simp
          have hel : (ba (encH C)).size ≤ 900 := by rw [ba_size, encH_len]; omega
          obtain ⟨d, hd⟩ : ∃ q, ba (digT i) = q := ⟨_, rfl⟩
          obtain ⟨E, hE⟩ : ∃ q, ba (encH C) = q := ⟨_, rfl⟩
          simp only [hd] at HTX
          simp only [hE] at HEC
          rw [hd, hE] at HSX
          rw [hd] at hdl
          rw [hE] at hel
          rw [HSX.out] at HNX0
          have habi : (a : Int) ≤ (b : Int) := by omega
          have hbni : (b : Int) ≤ (n : Int) := by omega
          clear hb hx hC hCl hd hE HSX HR hbm HSB
          go_upto_if 37 with (fail)
          go_cut [12] from 37 to 46 (fun t wc => t = .int .i64 (b : Int) ∧ wc = wr)
          case first =>
            by_cases him : i < m
            · have him2 : (i : Int) < (m : Int) := by omega
              obtain ⟨ad, rfl, hbl, c0⟩ := HAT.out him
              have hbd := HBO.out
              have hmm := HBX.out him
              clear hbl
              go_wp2
              go_meet
              case rel => exact ⟨rfl, rfl⟩
            · have him2 : ¬ (i : Int) < (m : Int) := by omega
              have hnb := HBY.out him
              subst hnb
              go_wp2
              go_meet
              case rel => exact ⟨rfl, rfl⟩
          case rest =>
            obtain ⟨rfl, hwc⟩ := hcut
            obtain rfl : wr = wc := hwc.symm
            clear hwc HAT HBX HBY
            by_cases hi0 : i = 0
            · have hi0i : ((i : Int) == 0) = true := by simpa using hi0
              have HNX1 := Lib.hid HNX0.out
              rw [show ba (secTag i) = ⟨#[85, 84, 70, 45, 56, 39, 101, 110, 39]⟩ by rw [hi0]; rfl] at HNX1
              clear HNX0 hi0
              cases rnd
              · have HNX := Lib.hid HNX1.out.1
                clear HNX1
                go_wp2_with fail
                refine (HTX.out _).mono ?_
                rintro e w2 ⟨rfl, hw⟩
                obtain rfl : wr = w2 := hw.symm
                clear hw
                go_wp2_with fail
                refine (HEC.out _).mono ?_
                rintro e w3 ⟨rfl, hb3⟩
                have HNV := Lib.hid (HNX.out w3 (HBr.out.trans (hb3.mono HBr.out.size)))
                clear hb3 HNX
                go_wp2
                go_roundw
                case rel => exact ⟨i + 1, b, _, _, _, by omega, rfl, rfl, by go_num, by go_num, rfl, rfl, HNV⟩
                case measure => simp [intOf] <;> omega
              · have HNX := Lib.hid HNX1.out.2
                clear HNX1
                go_wp2_with fail
                refine (HTX.out _).mono ?_
                rintro e w2 ⟨rfl, hw⟩
                obtain rfl : wr = w2 := hw.symm
                clear hw
                go_wp2_with fail
                refine (HEC.out _).mono ?_
                rintro e w3 ⟨rfl, hb3⟩
                have HNV := Lib.hid (HNX.out w3 (HBr.out.trans (hb3.mono HBr.out.size)))
                clear hb3 HNX
                go_wp2
                go_roundw
                case rel => exact ⟨i + 1, b, _, _, _, by omega, rfl, rfl, by go_num, by go_num, rfl, rfl, HNV⟩
                case measure => simp [intOf] <;> omega
            · have hi0i : ((i : Int) == 0) = false := by simpa using hi0
              have HNX1 := Lib.hid HNX0.out
              rw [show ba (secTag i) = ByteArray.empty by unfold secTag; rw [if_neg hi0]; rfl] at HNX1
              rw [ByteArray.append_empty] at HNX1
              clear HNX0 hi0
              cases rnd
              · have HNX := Lib.hid HNX1.out.1
                clear HNX1
                go_wp2_with fail
                refine (HTX.out _).mono ?_
                rintro e w2 ⟨rfl, hw⟩
                obtain rfl : wr = w2 := hw.symm
                clear hw
                go_wp2_with fail
                refine (HEC.out _).mono ?_
                rintro e w3 ⟨rfl, hb3⟩
                have HNV := Lib.hid (HNX.out w3 (HBr.out.trans (hb3.mono HBr.out.size)))
                clear hb3 HNX
                go_wp2
                go_roundw
                case rel => exact ⟨i + 1, b, _, _, _, by omega, rfl, rfl, by go_num, by go_num, rfl, rfl, HNV⟩
                case measure => simp [intOf] <;> omega
              · have HNX := Lib.hid HNX1.out.2
                clear HNX1
                go_wp2_with fail
                refine (HTX.out _).mono ?_
                rintro e w2 ⟨rfl, hw⟩
                obtain rfl : wr = w2 := hw.symm
                clear hw
                go_wp2_with fail
                refine (HEC.out _).mono ?_
                rintro e w3 ⟨rfl, hb3⟩
                have HNV := Lib.hid (HNX.out w3 (HBr.out.trans (hb3.mono HBr.out.size)))
                clear hb3 HNX
                go_wp2
                go_roundw
                case rel => exact ⟨i + 1, b, _, _, _, by omega, rfl, rfl, by go_num, by go_num, rfl, rfl, HNV⟩
                case measure => simp [intOf] <;> omega
        · obtain rfl : i = m + 1 := by omega
          have hii : ¬ (((m + 1 : Nat) : Int) ≤ (m : Int)) := by omega
          obtain ⟨l, hl, hll, hpt⟩ := HEN.out (by omega) w1 wr r a HR.out
          have HPA := Lib.hid (show ∀ W, Tabs W → Calls Tryz.prog 10 #[.string (⟨#[97, 47, 98]⟩ ++ r)] W (TypPost W (⟨[97], [98], [([110], repairP v)]⟩, true)) from fun W ht => by
            rw [← hpt, hl]
            exact parse_any l W (by omega) ht)
          have hr2 : r.size ≤ 11000 := by omega
          have HRV := Lib.hid (HRP.out HV3.out)
          unfold StrB at HRV
          have HTr := Lib.hid (HT1.out.below HBr.out)
          obtain ⟨rv, hrv⟩ : ∃ q, ba (repairP v) = q := ⟨_, rfl⟩
          have HRE := Lib.hid hrv
          simp only [hrv] at HRV
          clear hl hll hpt hrs HR hrv
          go_wp2_with fail
          refine (HPA.out _ HTr.out).mono ?_
          rintro e w4 ⟨pv, rfl, hown, hb4⟩
          obtain ⟨g, cp, rfl, hg, d0, d1⟩ := own_one hown
          replace d1 : w4.cell? ⟨g, 1, none⟩ = some (.string rv) := by rw [← HRE.out]; exact d1
          have hnn : (ba [110]) = ⟨#[110]⟩ := rfl
          replace d0 : w4.cell? ⟨g, 0, none⟩ = some (.string ⟨#[110]⟩) := d0
          have HB4 := Lib.hid (HBr.out.trans (hb4.mono HBr.out.size))
          have hbu := (Below.refl w4.heap.size w4).alloc (Nat.le_refl _) (.cells #[.string (ba [97]), .string (ba [98]), .slice (some ⟨g, 0, none⟩) 1 cp] 26)
          have HB5 := Lib.hid (HB1.out.trans ((HB4.out.trans (hbu.mono HB4.out.size)).mono HB1.out.size))
          have HT5 := Lib.hid ((HTr.out.below hb4).below hbu)
          have e1 : (rv.toList == rv.toList) = true := by simp
          have hne : ¬ w4.heap.size = g := by omega
          have hne2 : ¬ g = w4.heap.size := by omega
          clear hown hb4 hbu HPA hnn
          go_wp2
          obtain ⟨w5, hw5⟩ : ∃ w5, w4.alloc (.cells #[.string (ba [97]), .string (ba [98]), .slice (some ⟨g, 0, none⟩) 1 cp] 26) = w5 := ⟨_, rfl⟩
          have f0 : w5.cell? ⟨w4.heap.size, 2, none⟩ = some (.slice (some ⟨g, 0, none⟩) 1 cp) := by subst hw5; go_simp
          have f1 : w5.cell? ⟨g, 0, none⟩ = some (.string ⟨#[110]⟩) := by subst hw5; go_simp
          have f2 : w5.cell? ⟨g, 1, none⟩ = some (.string rv) := by subst hw5; go_simp
          have hu5 : w4.heap.size < w5.heap.size := by subst hw5; simp
          have hg5 : g < w5.heap.size := Nat.lt_trans hg hu5
          rw [hw5] at HB5 HT5 ⊢
          clear hw5 d0 d1
          have HTD := Lib.hid (HT5.out.below (show Below w5.heap.size w5 w5.drew from (Below.refl _ _).drew))
          obtain ⟨ub, hub⟩ : ∃ ub, w4.heap.size = ub := ⟨_, rfl⟩
          rw [hub] at f0 hu5 hne hne2 ⊢
          clear hub
          go_region_held3 (fun w' => w'.cell? ⟨ub, 2, none⟩ = some (.slice (some ⟨g, 0, none⟩) 1 cp) ∧ w'.cell? ⟨g, 0, none⟩ = some (.string ⟨#[110]⟩) ∧ w'.cell? ⟨g, 1, none⟩ = some (.string rv))
            (first | (go_split_ands; refine ⟨?_, ?_, ?_⟩ <;> first | assumption | go_keep))
            (first
              | (go_simp; go_at_call 24; refine (HRV.out _ HTD.out).mono ?_; rintro e v1 ⟨rfl, hb⟩; (
                  have HV1 := Lib.hid (show Below w5.heap.size w5 v1 from (show Below w5.heap.size w5 w5.drew from (Below.refl _ _).drew).trans (hb.mono (Nat.le_refl _)))
                  have p0 : v1.cell? ⟨ub, 2, none⟩ = some (.slice (some ⟨g, 0, none⟩) 1 cp) := (HV1.out.cell (p := ⟨ub, 2, none⟩) hu5).trans f0
                  have p1 : v1.cell? ⟨g, 0, none⟩ = some (.string ⟨#[110]⟩) := (HV1.out.cell (p := ⟨g, 0, none⟩) hg5).trans f1
                  have p2 : v1.cell? ⟨g, 1, none⟩ = some (.string rv) := (HV1.out.cell (p := ⟨g, 1, none⟩) hg5).trans f2
                  clear hb))
              | fail)
          all_goals
            go_wp2
            go_ret
            exact ⟨rfl, HB5.out.trans (HV1.out.mono HB5.out.size)⟩
end Go.Proofs.YtnpgnohlcphfnaaGreatDoor
