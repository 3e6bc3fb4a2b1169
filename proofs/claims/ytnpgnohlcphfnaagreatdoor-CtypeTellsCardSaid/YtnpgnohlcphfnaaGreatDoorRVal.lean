/- Reference 12: the contract of Value (printed by gen_rval.py). -/
import Derived.Test.YtnpgnohlcphfnaaGreatDoorRFir
import Derived.Test.YtnpgnohlcphfnaaGreatDoorRCtF
import Derived.Test.YtnpgnohlcphfnaaGreatDoorRCtG
import Derived.Test.YtnpgnohlcphfnaaGreatDoorRMea
import Derived.Test.YtnpgnohlcphfnaaGreatDoorM11
namespace Go.Proofs.YtnpgnohlcphfnaaGreatDoor
open Go.RowKit
set_option linter.unusedVariables false

theorem wide_drop {ts : List One1} {name : List UInt8} {k : Nat} (hk : k < ts.length) : (ts.drop k).find? (fun x => decide (x.at_ = ⟨name, -1, true⟩)) = if ts[k].at_ = ⟨name, -1, true⟩ then some ts[k] else (ts.drop (k + 1)).find? (fun x => decide (x.at_ = ⟨name, -1, true⟩)) := by
  rw [List.drop_eq_getElem_cons hk, List.find?_cons]
  by_cases h1 : ts[k].at_ = ⟨name, -1, true⟩
  · rw [if_pos h1, decide_eq_true h1]
  · rw [if_neg h1, decide_eq_false h1]
theorem valueP_n {ones : List One1} {name : List UInt8} (h0 : firstP ones name 0 = none) (h1 : ones.find? (fun x => decide (x.at_ = ⟨name, -1, true⟩)) = none) : valueP ones name = (firstP ones name (-1)).map (·.value) := by
  unfold valueP
  rw [h0]
  simp only [h1]
theorem valueP_w {ones : List One1} {name : List UInt8} {x : One1} (h0 : firstP ones name 0 = none) (h1 : ones.find? (fun x => decide (x.at_ = ⟨name, -1, true⟩)) = some x) : valueP ones name = some (meantP (splitP x.value).1 (openP (splitP x.value).2)) := by
  unfold valueP
  rw [h0]
  simp only [h1]
theorem val_last {w w' : World} {o : Option (List UInt8)} {o2 : Option One1} {p v : List UInt8} {z : Int} {wd b : Bool} (h : o = o2.map (·.value)) (h2 : o2.getD one0 = ⟨⟨p, z, wd⟩, v⟩) (h3 : o2.isSome = b) (hb : Below w.heap.size w w') : ValPost w o (.returned (.tuple #[.string (ba v), .bool b])) w' := by
  subst h
  subst h3
  cases o2 with
  | none =>
    have h4 : one0 = ⟨⟨p, z, wd⟩, v⟩ := h2
    injection h4 with h5 h6
    subst h6
    exact ⟨rfl, hb⟩
  | some y =>
    have h4 : y = ⟨⟨p, z, wd⟩, v⟩ := h2
    subst h4
    exact ⟨rfl, hb⟩
set_option maxRecDepth 100000 in
set_option maxHeartbeats 4000000 in
theorem rval_any (ones : List One1) (name : List UInt8) (A : Option Addr) (n c : Nat) (w : World) (hO : Ones w w.heap.size A n ones) (hn : n ≤ 1000000000) (hok : onesOk ones) :
    Calls Tryz.prog 74 #[.slice A n c, .string (ba name)] w (ValPost w (valueP ones name)) := by
  have HO := Lib.hid hO
  have HOK := Lib.hid hok
  have HN := Lib.hid hO.len
  have HF0 := Lib.hid (rfirst12_any ones name 0 A n c w hO hn)
  have HFX := Lib.hid (fun (z : Int) (W : World) (hb : Below w.heap.size w W) => rfirst12_any ones name z A n c W ((hO.below hb).more hb.size) hn)
  unfold F1Post oneV at HF0 HFX
  clear hO hok
  cases hf0 : firstP ones name 0 with
  | none =>
    rw [hf0] at HF0
    have HSTEP := Lib.hid (fun k (hk : k < ones.length) => wide_drop (name := name) hk)
    obtain ⟨o, ho⟩ : ∃ o, ones.find? (fun x => decide (x.at_ = ⟨name, -1, true⟩)) = o := ⟨_, rfl⟩
    have HVN := Lib.hid (fun (h : o = none) => valueP_n hf0 (ho.trans h))
    have HVW := Lib.hid (fun (x : One1) (h : o = some x) => valueP_w hf0 (ho.trans h))
    have HMEM := Lib.hid (fun (x : One1) (h : o = some x) => List.mem_of_find?_eq_some (ho.trans h))
    have HOO := Lib.hid ho
    clear hf0 ho
    have HFM := Lib.hid (fun W hb => HFX.out (-1) W hb)
    obtain ⟨o2, ho2⟩ : ∃ o, firstP ones name (-1) = o := ⟨_, rfl⟩
    simp only [ho2] at HFM HVN
    obtain ⟨⟨⟨p2, z2, b2⟩, v2⟩, hx2⟩ : ∃ x, o2.getD one0 = x := ⟨_, rfl⟩
    obtain ⟨s2, hs2⟩ : ∃ b, o2.isSome = b := ⟨_, rfl⟩
    simp only [hx2, hs2] at HFM
    have HX2 := Lib.hid hx2
    have HS2 := Lib.hid hs2
    clear ho2 hx2 hs2
    go_enter Tryz.func74, Tryz.ntmps74
    go_wp2_with fail
    refine HF0.out.mono ?_
    rintro e w1 ⟨rfl, hb1⟩
    have HB1 := Lib.hid hb1
    clear hb1 HF0
    go_wp2
    obtain ⟨W, hW⟩ : ∃ W, w1.alloc (.cells #[.string (ba one0.at_.name), .int .i64 one0.at_.section_, .bool one0.at_.wide, .string (ba one0.value)] 100) = W := ⟨_, rfl⟩
    have HBW := Lib.hid (show Below w.heap.size w W by rw [← hW]; exact HB1.out.alloc HB1.out.size _)
    have hZW : w.heap.size ≤ W.heap.size := HBW.out.size
    first | rw [hW] | (have hW' := hW; simp only [one0, ba] at hW'; rw [hW'])
    clear hW
    have HT0 := Lib.hid (HO.out.below HBW.out)
    go_loop [8] (fun i => ∃ k : Nat, k ≤ n ∧ i = .int .i64 (k : Int) ∧ Hid (o = (ones.drop k).find? (fun x => decide (x.at_ = ⟨name, -1, true⟩)))) (fun i => n - (intOf i).toNat)
    case atStart => exact ⟨0, Nat.zero_le _, rfl, Lib.hid HOO.out.symm⟩
    case round =>
      obtain ⟨k, hk, rfl, HR⟩ := hrel
      by_cases hlt : k < n
      · have hk2 : (k : Int) < n := by omega
        have hkl : k < ones.length := by rw [HN.out]; exact hlt
        obtain ⟨ad, rfl, hbl, c0, c1, c2, c3, -⟩ := HT0.out.2 k hkl
        have HS := Lib.hid (HSTEP.out k hkl)
        obtain ⟨t, ht⟩ : ∃ t, ones[k] = t := ⟨_, rfl⟩
        rw [ht] at c0 c1 c2 c3 HS
        obtain ⟨⟨p, z, b⟩, v⟩ := t
        dsimp only at c0 c1 c2 c3 HS
        clear ht hkl hbl
        by_cases e1 : p = name
        · subst e1
          by_cases e2 : z = -1
          · subst e2
            cases b with
            | true =>
              have HF := Lib.hid (show o = some ⟨⟨p, -1, true⟩, v⟩ by rw [HR.out, HS.out, if_pos rfl])
              have HV := Lib.hid (HVW.out _ HF.out)
              have hxl := (HOK.out _ (HMEM.out _ HF.out)).1
              have hsl := splitP_len v
              have hol := openP_len _ (splitP v).2 (Nat.le_refl _)
              have HSP := Lib.hid (rsplit_any v W (by have h : v.length ≤ 10000000 := hxl; omega))
              unfold SplitPost at HSP
              have HXL := Lib.hid (show v.length ≤ 10000000 from hxl)
              clear hxl
              obtain ⟨⟨set_, rest⟩, hss⟩ : ∃ q, splitP v = q := ⟨_, rfl⟩
              have HV2 := Lib.hid (show valueP ones p = some (meantP set_ (openP rest)) by rw [HV.out]; dsimp only; rw [hss])
              rw [hss] at HSP hsl hol
              have HSL := Lib.hid (show set_.length ≤ 1000000000 by have h1 : set_.length ≤ v.length := hsl.1; have := HXL.out; omega)
              have HRL := Lib.hid (show rest.length ≤ 1000000000 by have h1 : rest.length ≤ v.length := hsl.2; have := HXL.out; omega)
              have HOL := Lib.hid (show (openP rest).length ≤ 1000000000 by have h1 : (openP rest).length ≤ rest.length := hol; have := HRL.out; omega)
              clear hss hsl hol HV
              go_wp2_with fail
              refine HSP.out.mono ?_
              rintro e w3 ⟨rfl, hb3⟩
              have HB3 := Lib.hid hb3
              have hz3 := hb3.size
              clear hb3
              go_wp2_with fail
              refine (ropen_any rest w3 HRL.out).mono ?_
              rintro e w4 ⟨rfl, hb4⟩
              have HB4 := Lib.hid (HB3.out.trans (hb4.mono hz3))
              have hz4 := HB4.out.size
              clear hb4
              go_wp2_with fail
              refine (rmeant_any set_ (openP rest) w4 HSL.out HOL.out).mono ?_
              rintro e w5 ⟨rfl, hb5⟩
              have HB5 := Lib.hid (HBW.out.trans ((HB4.out.trans (hb5.mono hz4)).mono hZW))
              clear hb5
              go_wp2
              go_ret2
              exact val_fin HV2.out rfl HB5.out
            | false =>
              have HF := Lib.hid (show o = (ones.drop (k + 1)).find? (fun x => decide (x.at_ = ⟨p, -1, true⟩)) by rw [HR.out, HS.out, if_neg (by simp)])
              go_wp2
              go_round
              case rel => exact ⟨k + 1, by omega, by go_num, HF⟩
              case measure => simp [intOf] <;> omega
          · have g2 : (z == -1) = false := by simpa using e2
            have HF := Lib.hid (show o = (ones.drop (k + 1)).find? (fun x => decide (x.at_ = ⟨p, -1, true⟩)) by rw [HR.out, HS.out, if_neg (by intro h; injection h with _ h _; exact e2 h)])
            clear e2
            go_wp2
            go_round
            case rel => exact ⟨k + 1, by omega, by go_num, HF⟩
            case measure => simp [intOf] <;> omega
        · have g1 : ((ba p).toList == (ba name).toList) = false := by rw [ba_toList, ba_toList]; simpa using e1
          have g2 : ¬ (ba p).toList = (ba name).toList := by rw [ba_toList, ba_toList]; exact e1
          have HF := Lib.hid (show o = (ones.drop (k + 1)).find? (fun x => decide (x.at_ = ⟨name, -1, true⟩)) by rw [HR.out, HS.out, if_neg (by intro h; injection h with h _ _; exact e1 h)])
          clear e1
          go_wp2
          go_round
          case rel => exact ⟨k + 1, by omega, by go_num, HF⟩
          case measure => simp [intOf] <;> omega
      · obtain rfl : n = k := by omega
        have HF := Lib.hid (HVN.out (show o = none by
          rw [HR.out, List.drop_eq_nil_of_le (by rw [HN.out]; exact Nat.le_refl _)]
          rfl))
        go_wp2_with fail
        refine (HFM.out W HBW.out).mono ?_
        rintro e w3 ⟨rfl, hb3⟩
        have HB3 := Lib.hid (HBW.out.trans (hb3.mono hZW))
        clear hb3
        go_wp2
        go_ret2
        exact val_last HF.out HX2.out HS2.out (HB3.out.alloc HB3.out.size _)
  | some x =>
    rw [hf0] at HF0
    have HV := Lib.hid (value_sec hf0)
    have hxl := (HOK.out x (first_mem hf0)).1
    obtain ⟨⟨xn, xz, xw⟩, xv⟩ := x
    have HV' := Lib.hid (show valueP ones name = if xw = true then some (meantP (splitP xv).1 (openP (splitP xv).2 ++ restG ones name 63 1)) else some (xv ++ restG ones name 63 1) from HV.out)
    have HXL := Lib.hid (show xv.length ≤ 10000000 from hxl)
    have HFF := Lib.hid (show Calls Tryz.prog 112 #[.slice A n c, .string (ba name), .int .i64 0] w (fun e w' => e = .returned (.tuple #[.agg #[.string (ba xn), .int .i64 xz, .bool xw, .string (ba xv)], .bool true]) ∧ Below w.heap.size w w') from HF0.out)
    clear hf0 hxl HF0 HV
    go_enter Tryz.func74, Tryz.ntmps74
    go_wp2_with fail
    refine HFF.out.mono ?_
    rintro e w1 ⟨rfl, hb1⟩
    have HB1 := Lib.hid hb1
    clear hb1 HFF
    cases xw with
    | false =>
      have HVAL := Lib.hid (show valueP ones name = some (xv ++ restG ones name 63 1) from HV'.out)
      have HBL := Lib.hid (show xv.length ≤ 10000000 from HXL.out)
      have hwc : ∀ W, W = w1.alloc (.cells #[.string (ba xn), .int .i64 xz, .bool false, .string (ba xv)] 100) → Below w.heap.size w W ∧ W.cell? ⟨w1.heap.size, 2, none⟩ = some (.bool false) ∧ w1.heap.size < W.heap.size := by
        rintro W rfl
        exact ⟨HB1.out.alloc HB1.out.size _, by simp, by simp⟩
      have HWC := Lib.hid hwc
      clear hwc
      go_wp2
      obtain ⟨W, hW⟩ : ∃ W, w1.alloc (.cells #[.string (ba xn), .int .i64 xz, .bool false, .string (ba xv)] 100) = W := ⟨_, rfl⟩
      obtain ⟨k1, k2, hlt0⟩ := HWC.out W hW.symm
      have HBW := Lib.hid k1
      have HC2 := Lib.hid k2
      have hzw : w.heap.size ≤ W.heap.size := HBW.out.size
      rw [hW]
      clear hW k1 k2
      go_loopw [14, 17, 18, 19] (fun oo i a b wr => ∃ (k : Nat) (acc : List UInt8) (xa xb : Value), a = xa ∧ b = xb ∧ 1 ≤ k ∧ k ≤ 64 ∧ i = .int .i64 (k : Int) ∧ oo = .string (ba acc) ∧ Hid (SecRel W ones name xv k acc wr)) (fun _ i _ _ _ => 64 - (intOf i).toNat)
      case atStart => exact ⟨1, xv, _, _, rfl, rfl, by omega, by omega, rfl, rfl, Lib.hid ⟨rfl, Below.refl _ _, by have := HBL.out; omega⟩⟩
      case round =>
        obtain ⟨k, acc, xa, xb, rfl, rfl, hk1, hk2, rfl, rfl, HR⟩ := hrel
        have HBE := Lib.hid HR.out.bel
        have hszr := HBE.out.size
        have hal := HR.out.len
        have HEQ := Lib.hid HR.out.eq
        have HLENX := Lib.hid (show acc.length ≤ 640000000 by omega)
        have HLK := Lib.hid hal
        have HBR := Lib.hid (HBW.out.trans (HBE.out.mono hzw))
        have hxc := (HBE.out.cell (p := ⟨w1.heap.size, 2, none⟩) hlt0).trans HC2.out
        clear hal HR
        by_cases hlt : k < 64
        · have hki : (k : Int) < 64 := by omega
          have HGK := Lib.hid (HFX.out (k : Int) wr HBR.out)
          cases hfk : firstP ones name (k : Int) with
          | none =>
            have HGN := Lib.hid (show Calls Tryz.prog 112 #[.slice A n c, .string (ba name), .int .i64 (k : Int)] wr (fun e w' => e = .returned (.tuple #[.agg #[.string ⟨#[]⟩, .int .i64 0, .bool false, .string ⟨#[]⟩], .bool false]) ∧ Below wr.heap.size wr w') by
              have h := HGK.out
              rw [hfk] at h
              exact h)
            have HACC := Lib.hid (show acc = xv ++ restG ones name 63 1 by
              have := HEQ.out
              rw [restG_none _ hfk, List.append_nil] at this
              exact this)
            clear hfk HGK hxc
            go_wp2_with fail
            refine HGN.out.mono ?_
            rintro e w8 ⟨rfl, hb8⟩
            have HB8 := Lib.hid (HBR.out.trans (hb8.mono HBR.out.size))
            have HB9 := Lib.hid (HB8.out.alloc HB8.out.size (.cells #[.string ⟨#[]⟩, .int .i64 0, .bool false, .string ⟨#[]⟩] 100))
            have hxc := (((HBE.out.trans (hb8.mono HBE.out.size)).alloc (Nat.le_trans HBE.out.size hb8.size) (.cells #[.string ⟨#[]⟩, .int .i64 0, .bool false, .string ⟨#[]⟩] 100)).cell (p := ⟨w1.heap.size, 2, none⟩) hlt0).trans HC2.out
            clear hb8
            go_wp2
            go_ret2
            exact val_fin HVAL.out (by rw [HACC.out]) HB9.out
          | some y =>
            have hyl := (HOK.out y (first_mem hfk)).1
            have HEQ2 := Lib.hid (show (acc ++ if y.at_.wide = true then openP y.value else y.value) ++ restG ones name (64 - (k + 1)) ((k + 1 : Nat) : Int) = xv ++ restG ones name 63 1 by
              have := HEQ.out
              rw [show 64 - k = (64 - (k + 1)) + 1 by omega, restG_some hfk] at this
              rw [List.append_assoc, ← this]
              rfl)
            have hopl := openP_len _ y.value (Nat.le_refl _)
            obtain ⟨⟨yn, yz, yw⟩, yv⟩ := y
            have HGS := Lib.hid (show Calls Tryz.prog 112 #[.slice A n c, .string (ba name), .int .i64 (k : Int)] wr (fun e w' => e = .returned (.tuple #[.agg #[.string (ba yn), .int .i64 yz, .bool yw, .string (ba yv)], .bool true]) ∧ Below wr.heap.size wr w') by
              have h := HGK.out
              rw [hfk] at h
              exact h)
            have HYL := Lib.hid (show yv.length ≤ 10000000 from hyl)
            have HOPL := Lib.hid (show (openP yv).length ≤ yv.length from hopl)
            clear hfk hyl hopl HGK hxc
            cases yw with
            | false =>
              have hap := ba_append acc yv
              have hln : ¬ 9223372036854775807 < (ba acc).size + (ba yv).size := by
                rw [ba_size, ba_size]
                have := HLENX.out
                have := HYL.out
                omega
              have HE3 := Lib.hid (show (acc ++ yv) ++ restG ones name (64 - (k + 1)) ((k + 1 : Nat) : Int) = xv ++ restG ones name 63 1 from HEQ2.out)
              have HL3 := Lib.hid (show (acc ++ yv).length ≤ (k + 1) * 10000000 by rw [List.length_append]; have := HLK.out; have := HYL.out; omega)
              go_wp2_with fail
              refine HGS.out.mono ?_
              rintro e w8 ⟨rfl, hb8⟩
              have HB8 := Lib.hid ((HBE.out.trans (hb8.mono HBE.out.size)).alloc (Nat.le_trans HBE.out.size hb8.size) (.cells #[.string (ba yn), .int .i64 yz, .bool false, .string (ba yv)] 100))
              clear hb8
              go_wp2
              go_roundw
              case rel => exact ⟨k + 1, acc ++ yv, _, _, rfl, rfl, by omega, by omega, by go_num, rfl, Lib.hid ⟨HE3.out, HB8.out, HL3.out⟩⟩
              case measure => simp [intOf] <;> omega
            | true =>
              have hap := ba_append acc (openP yv)
              have hln : ¬ 9223372036854775807 < (ba acc).size + (ba (openP yv)).size := by
                rw [ba_size, ba_size]
                have := HLENX.out
                have := HYL.out
                have := HOPL.out
                omega
              have HE3 := Lib.hid (show (acc ++ openP yv) ++ restG ones name (64 - (k + 1)) ((k + 1 : Nat) : Int) = xv ++ restG ones name 63 1 from HEQ2.out)
              have HL3 := Lib.hid (show (acc ++ openP yv).length ≤ (k + 1) * 10000000 by rw [List.length_append]; have := HLK.out; have := HYL.out; have := HOPL.out; omega)
              have HOP := Lib.hid (fun W => ropen_any yv W (by have := HYL.out; omega))
              go_wp2_with fail
              refine HGS.out.mono ?_
              rintro e w8 ⟨rfl, hb8⟩
              have HB8 := Lib.hid ((HBE.out.trans (hb8.mono HBE.out.size)).alloc (Nat.le_trans HBE.out.size hb8.size) (.cells #[.string (ba yn), .int .i64 yz, .bool true, .string (ba yv)] 100))
              clear hb8
              go_wp2_with fail
              refine (HOP.out _).mono ?_
              rintro e w9 ⟨rfl, hb9⟩
              have HB9 := Lib.hid (HB8.out.trans (hb9.mono HB8.out.size))
              clear hb9
              go_wp2
              go_roundw
              case rel => exact ⟨k + 1, acc ++ openP yv, _, _, rfl, rfl, by omega, by omega, by go_num, rfl, Lib.hid ⟨HE3.out, HB9.out, HL3.out⟩⟩
              case measure => simp [intOf] <;> omega
        · obtain rfl : k = 64 := by omega
          have HACC := Lib.hid (show acc = xv ++ restG ones name 63 1 by
            have := HEQ.out
            rw [show restG ones name (64 - 64) ((64 : Nat) : Int) = [] from rfl, List.append_nil] at this
            exact this)
          have HB9 := Lib.hid HBR.out
          go_wp2
          go_ret2
          exact val_fin HVAL.out (by rw [HACC.out]) HB9.out
    | true =>
      have hsl := splitP_len xv
      have hol := openP_len _ (splitP xv).2 (Nat.le_refl _)
      obtain ⟨⟨set_, rest⟩, hss⟩ : ∃ q, splitP xv = q := ⟨_, rfl⟩
      have HV2 := Lib.hid (show valueP ones name = some (meantP (splitP xv).1 (openP (splitP xv).2 ++ restG ones name 63 1)) from HV'.out)
      rw [hss] at HV2 hsl hol
      have HSETL := Lib.hid (show set_.length ≤ 1000000000 by have h1 : set_.length ≤ xv.length := hsl.1; have := HXL.out; omega)
      have HRL := Lib.hid (show rest.length ≤ 1000000000 by have h1 : rest.length ≤ xv.length := hsl.2; have := HXL.out; omega)
      have HBL := Lib.hid (show (openP rest).length ≤ 10000000 by have h1 : rest.length ≤ xv.length := hsl.2; have h2 : (openP rest).length ≤ rest.length := hol; have := HXL.out; omega)
      have HSP := Lib.hid (fun W => rsplit_any xv W (by have := HXL.out; omega))
      unfold SplitPost at HSP
      simp only [hss] at HSP
      obtain ⟨base, hbase⟩ : ∃ b, openP rest = b := ⟨_, rfl⟩
      have HOPR := Lib.hid (fun W => ropen_any rest W HRL.out)
      have HVAL := Lib.hid (show valueP ones name = some (meantP set_ (base ++ restG ones name 63 1)) by rw [← hbase]; exact HV2.out)
      rw [hbase] at HBL
      simp only [hbase] at HOPR
      clear hss hsl hol hbase HV2
      have hwc : ∀ W, W = w1.alloc (.cells #[.string (ba xn), .int .i64 xz, .bool true, .string (ba xv)] 100) → Below w.heap.size w W ∧ W.cell? ⟨w1.heap.size, 2, none⟩ = some (.bool true) ∧ w1.heap.size < W.heap.size := by
        rintro W rfl
        exact ⟨HB1.out.alloc HB1.out.size _, by simp, by simp⟩
      have HWC := Lib.hid hwc
      clear hwc
      go_wp2_with fail
      refine (HSP.out _).mono ?_
      rintro e w3 ⟨rfl, hb3⟩
      obtain ⟨W1, hW1⟩ : ∃ W, w1.alloc (.cells #[.string (ba xn), .int .i64 xz, .bool true, .string (ba xv)] 100) = W := ⟨_, rfl⟩
      obtain ⟨k1, k2, k3⟩ := HWC.out W1 hW1.symm
      rw [hW1] at hb3
      have HB3 := Lib.hid (k1.trans (hb3.mono k1.size))
      have HC3 := Lib.hid ((hb3.cell (p := ⟨w1.heap.size, 2, none⟩) k3).trans k2)
      have HL3 := Lib.hid (Nat.lt_of_lt_of_le k3 hb3.size)
      clear hb3 k1 k2 k3 hW1
      go_wp2_with fail
      refine (HOPR.out w3).mono ?_
      rintro e W ⟨rfl, hb4⟩
      have HBW := Lib.hid (HB3.out.trans (hb4.mono HB3.out.size))
      have HC2 := Lib.hid ((hb4.cell (p := ⟨w1.heap.size, 2, none⟩) HL3.out).trans HC3.out)
      have hlt0 : w1.heap.size < W.heap.size := Nat.lt_of_lt_of_le HL3.out hb4.size
      have hzw : w.heap.size ≤ W.heap.size := HBW.out.size
      clear hb4
      go_wp2
      go_loopw [14, 17, 18, 19] (fun oo i a b wr => ∃ (k : Nat) (acc : List UInt8) (xa xb : Value), a = xa ∧ b = xb ∧ 1 ≤ k ∧ k ≤ 64 ∧ i = .int .i64 (k : Int) ∧ oo = .string (ba acc) ∧ Hid (SecRel W ones name base k acc wr)) (fun _ i _ _ _ => 64 - (intOf i).toNat)
      case atStart => exact ⟨1, base, _, _, rfl, rfl, by omega, by omega, rfl, rfl, Lib.hid ⟨rfl, Below.refl _ _, by have := HBL.out; omega⟩⟩
      case round =>
        obtain ⟨k, acc, xa, xb, rfl, rfl, hk1, hk2, rfl, rfl, HR⟩ := hrel
        have HBE := Lib.hid HR.out.bel
        have hszr := HBE.out.size
        have hal := HR.out.len
        have HEQ := Lib.hid HR.out.eq
        have HLENX := Lib.hid (show acc.length ≤ 640000000 by omega)
        have HLK := Lib.hid hal
        have HBR := Lib.hid (HBW.out.trans (HBE.out.mono hzw))
        have hxc := (HBE.out.cell (p := ⟨w1.heap.size, 2, none⟩) hlt0).trans HC2.out
        clear hal HR
        by_cases hlt : k < 64
        · have hki : (k : Int) < 64 := by omega
          have HGK := Lib.hid (HFX.out (k : Int) wr HBR.out)
          cases hfk : firstP ones name (k : Int) with
          | none =>
            have HGN := Lib.hid (show Calls Tryz.prog 112 #[.slice A n c, .string (ba name), .int .i64 (k : Int)] wr (fun e w' => e = .returned (.tuple #[.agg #[.string ⟨#[]⟩, .int .i64 0, .bool false, .string ⟨#[]⟩], .bool false]) ∧ Below wr.heap.size wr w') by
              have h := HGK.out
              rw [hfk] at h
              exact h)
            have HACC := Lib.hid (show acc = base ++ restG ones name 63 1 by
              have := HEQ.out
              rw [restG_none _ hfk, List.append_nil] at this
              exact this)
            clear hfk HGK hxc
            go_wp2_with fail
            refine HGN.out.mono ?_
            rintro e w8 ⟨rfl, hb8⟩
            have HB8 := Lib.hid (HBR.out.trans (hb8.mono HBR.out.size))
            have HB9 := Lib.hid (HB8.out.alloc HB8.out.size (.cells #[.string ⟨#[]⟩, .int .i64 0, .bool false, .string ⟨#[]⟩] 100))
            have hxc := (((HBE.out.trans (hb8.mono HBE.out.size)).alloc (Nat.le_trans HBE.out.size hb8.size) (.cells #[.string ⟨#[]⟩, .int .i64 0, .bool false, .string ⟨#[]⟩] 100)).cell (p := ⟨w1.heap.size, 2, none⟩) hlt0).trans HC2.out
            clear hb8
            go_wp2_with fail
            refine (rmeant_any set_ acc _ HSETL.out (by have := HLENX.out; omega)).mono ?_
            rintro e w9 ⟨rfl, hb9⟩
            have HB10 := Lib.hid (HB9.out.trans (hb9.mono HB9.out.size))
            clear hb9
            go_wp2
            go_ret2
            exact val_fin HVAL.out (by rw [HACC.out]) HB10.out
          | some y =>
            have hyl := (HOK.out y (first_mem hfk)).1
            have HEQ2 := Lib.hid (show (acc ++ if y.at_.wide = true then openP y.value else y.value) ++ restG ones name (64 - (k + 1)) ((k + 1 : Nat) : Int) = base ++ restG ones name 63 1 by
              have := HEQ.out
              rw [show 64 - k = (64 - (k + 1)) + 1 by omega, restG_some hfk] at this
              rw [List.append_assoc, ← this]
              rfl)
            have hopl := openP_len _ y.value (Nat.le_refl _)
            obtain ⟨⟨yn, yz, yw⟩, yv⟩ := y
            have HGS := Lib.hid (show Calls Tryz.prog 112 #[.slice A n c, .string (ba name), .int .i64 (k : Int)] wr (fun e w' => e = .returned (.tuple #[.agg #[.string (ba yn), .int .i64 yz, .bool yw, .string (ba yv)], .bool true]) ∧ Below wr.heap.size wr w') by
              have h := HGK.out
              rw [hfk] at h
              exact h)
            have HYL := Lib.hid (show yv.length ≤ 10000000 from hyl)
            have HOPL := Lib.hid (show (openP yv).length ≤ yv.length from hopl)
            clear hfk hyl hopl HGK hxc
            cases yw with
            | false =>
              have hap := ba_append acc yv
              have hln : ¬ 9223372036854775807 < (ba acc).size + (ba yv).size := by
                rw [ba_size, ba_size]
                have := HLENX.out
                have := HYL.out
                omega
              have HE3 := Lib.hid (show (acc ++ yv) ++ restG ones name (64 - (k + 1)) ((k + 1 : Nat) : Int) = base ++ restG ones name 63 1 from HEQ2.out)
              have HL3 := Lib.hid (show (acc ++ yv).length ≤ (k + 1) * 10000000 by rw [List.length_append]; have := HLK.out; have := HYL.out; omega)
              go_wp2_with fail
              refine HGS.out.mono ?_
              rintro e w8 ⟨rfl, hb8⟩
              have HB8 := Lib.hid ((HBE.out.trans (hb8.mono HBE.out.size)).alloc (Nat.le_trans HBE.out.size hb8.size) (.cells #[.string (ba yn), .int .i64 yz, .bool false, .string (ba yv)] 100))
              clear hb8
              go_wp2
              go_roundw
              case rel => exact ⟨k + 1, acc ++ yv, _, _, rfl, rfl, by omega, by omega, by go_num, rfl, Lib.hid ⟨HE3.out, HB8.out, HL3.out⟩⟩
              case measure => simp [intOf] <;> omega
            | true =>
              have hap := ba_append acc (openP yv)
              have hln : ¬ 9223372036854775807 < (ba acc).size + (ba (openP yv)).size := by
                rw [ba_size, ba_size]
                have := HLENX.out
                have := HYL.out
                have := HOPL.out
                omega
              have HE3 := Lib.hid (show (acc ++ openP yv) ++ restG ones name (64 - (k + 1)) ((k + 1 : Nat) : Int) = base ++ restG ones name 63 1 from HEQ2.out)
              have HL3 := Lib.hid (show (acc ++ openP yv).length ≤ (k + 1) * 10000000 by rw [List.length_append]; have := HLK.out; have := HYL.out; have := HOPL.out; omega)
              have HOP := Lib.hid (fun W => ropen_any yv W (by have := HYL.out; omega))
              go_wp2_with fail
              refine HGS.out.mono ?_
              rintro e w8 ⟨rfl, hb8⟩
              have HB8 := Lib.hid ((HBE.out.trans (hb8.mono HBE.out.size)).alloc (Nat.le_trans HBE.out.size hb8.size) (.cells #[.string (ba yn), .int .i64 yz, .bool true, .string (ba yv)] 100))
              clear hb8
              go_wp2_with fail
              refine (HOP.out _).mono ?_
              rintro e w9 ⟨rfl, hb9⟩
              have HB9 := Lib.hid (HB8.out.trans (hb9.mono HB8.out.size))
              clear hb9
              go_wp2
              go_roundw
              case rel => exact ⟨k + 1, acc ++ openP yv, _, _, rfl, rfl, by omega, by omega, by go_num, rfl, Lib.hid ⟨HE3.out, HB9.out, HL3.out⟩⟩
              case measure => simp [intOf] <;> omega
        · obtain rfl : k = 64 := by omega
          have HACC := Lib.hid (show acc = base ++ restG ones name 63 1 by
            have := HEQ.out
            rw [show restG ones name (64 - 64) ((64 : Nat) : Int) = [] from rfl, List.append_nil] at this
            exact this)
          have HB9 := Lib.hid HBR.out
          go_wp2_with fail
          refine (rmeant_any set_ acc _ HSETL.out (by have := HLENX.out; omega)).mono ?_
          rintro e w9 ⟨rfl, hb9⟩
          have HB10 := Lib.hid (HB9.out.trans (hb9.mono HB9.out.size))
          clear hb9
          go_wp2
          go_ret2
          exact val_fin HVAL.out (by rw [HACC.out]) HB10.out
end Go.Proofs.YtnpgnohlcphfnaaGreatDoor
