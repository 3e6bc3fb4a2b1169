/- Layer 12: the contract of value (printed by gen_value. Layer 14: the contract of boundary. -/
import Derived.Test.YthidbmeaccpjdaaGreatDoorM16
import Derived.Test.YthidbmeaccpjdaaGreatDoorM08
import Derived.Test.YthidbmeaccpjdaaGreatDoorM15
namespace Go.Proofs.YthidbmeaccpjdaaGreatDoor
open Go.RowKit
set_option linter.unusedVariables false
set_option maxHeartbeats 4000000
theorem openP_len : ∀ (n : Nat) (l : List UInt8), l.length ≤ n → (openP l).length ≤ l.length
 | 0, l, h => by
  have : l = [] := List.eq_nil_of_length_eq_zero (by omega)
  subst this
  exact Nat.le_refl _
 | n + 1, l, h => by
  cases l with
  | nil => exact Nat.le_refl _
  | cons c r =>
   have hr : r.length ≤ n := by simpa using h
   by_cases hs : c ≠ 37 ∨ r.length < 2 ∨ unhexP (r.take 2) = none
   ·rw [openP_skip c r hs]
    have := openP_len n r hr
    simp only [List.length_cons]
    omega
   ·have h1 : c = 37 := Classical.not_not.1 fun h => hs (.inl h)
    have h2 : 2 ≤ r.length := by
     rcases Nat.lt_or_ge r.length 2 with h | h
     ·exact absurd (.inr (.inl h)) hs
     ·exact h
    cases hz : unhexP (r.take 2) with
    | none => exact absurd (.inr (.inr hz)) hs
    | some z =>
     subst h1
     rw [openP_take r z h2 hz]
     have h3 := unhex_len _ _ hz
     rw [List.length_take] at h3
     have h4 := openP_len n (r.drop 2) (by rw [List.length_drop]; omega)
     rw [List.length_drop] at h4
     rw [List.length_append, List.length_cons]
     omega
theorem splitP_len (l : List UInt8) : (splitP l).1.length ≤ l.length ∧ (splitP l).2.length ≤ l.length := by
 rw [splitP_cut]
 have h1 := cutV_len 39 l
 have h2 := cutV_len 39 (cutV 39 l).2.1
 split
 ·exact ⟨h1.1, by show (cutV 39 (cutV 39 l).2.1).2.1.length ≤ _; omega⟩
 ·exact ⟨Nat.zero_le _, Nat.le_refl _⟩
def onesOk (ones : List One1) : Prop := ∀ x ∈ ones, x.value.length ≤ 10000000 ∧ x.at_.name.length ≤ 10000000
theorem first_mem {ones : List One1} {name : List UInt8} {s : Int} {x : One1} (h : firstP ones name s = some x) : x ∈ ones := List.mem_of_find?_eq_some h
theorem restG_len {ones : List One1} (h : onesOk ones) (name : List UInt8) : ∀ (f : Nat) (k : Int), (restG ones name f k).length ≤ f * 10000000
 | 0, k => by simp [restG]
 | f + 1, k => by
  unfold restG
  split
  ·simp
  ·rename_i x hx
   have h1 := (h x (first_mem hx)).1
   have h2 := restG_len h name f (k + 1)
   have h3 := openP_len _ x.value (Nat.le_refl _)
   rw [List.length_append]
   split <;> omega
theorem restG_none {ones : List One1} {name : List UInt8} {k : Int} (f : Nat) (h : firstP ones name k = none) : restG ones name f k = [] := by
 cases f with
 | zero => rfl
 | succ f => unfold restG; rw [h]
theorem restG_some {ones : List One1} {name : List UInt8} {k : Int} {f : Nat} {x : One1} (h : firstP ones name k = some x) : restG ones name (f + 1) k = (if x.at_.wide = true then openP x.value else x.value) ++ restG ones name f (k + 1) := by
 conv => lhs; unfold restG
 rw [h]
def ValPost (w : World) (o : Option (List UInt8)) (e : Ending) (w' : World) : Prop := e = .returned (.tuple #[.string (ba (o.getD [])), .bool o.isSome]) ∧ Below w.heap.size w w'
theorem val_fin {w w' : World} {o : Option (List UInt8)} {v : List UInt8} {s : ByteArray} (h : o = some v) (hs : s = ba v) (hb : Below w.heap.size w w') : ValPost w o (.returned (.tuple #[.string s, .bool true])) w' := by
 subst h
 subst hs
 exact ⟨rfl, hb⟩
theorem value_none {ones : List One1} {name : List UInt8} (h0 : firstP ones name 0 = none) (h1 : parF ones ⟨name, -1, true⟩ = none) : (valueP ones name).map (fun v => Value.string (ba v)) = parF ones ⟨name, -1, false⟩ := by
 unfold valueP
 rw [h0]
 unfold parF at h1
 have h2 : ones.find? (fun o => decide (o.at_ = ⟨name, -1, true⟩)) = none := Option.map_eq_none_iff.1 h1
 simp only [h2]
 rw [Option.map_map]
 unfold parF firstP
 have h3 : ∀ x ∈ ones, (decide (x.at_.name = name) && decide (x.at_.section_ = -1)) = decide (x.at_ = ⟨name, -1, false⟩) := fun x hx => by
  have h4 := List.find?_eq_none.1 h2 x hx
  have h5 : x.at_ ≠ ⟨name, -1, true⟩ := by simpa using h4
  rw [Bool.eq_iff_iff, Bool.and_eq_true, decide_eq_true_iff, decide_eq_true_iff, decide_eq_true_iff]
  constructor
  ·intro h6
   cases ha : x.at_ with
   | mk n2 s2 w2 =>
    rw [ha] at h6 h5
    obtain ⟨h7, h8⟩ := h6
    subst h7; subst h8
    cases w2 with
    | true => exact absurd rfl h5
    | false => rfl
  ·intro h6
   rw [h6]
   exact ⟨rfl, rfl⟩
 have h6 : ones.find? (fun x => decide (x.at_.name = name) && decide (x.at_.section_ = -1)) = ones.find? (fun o => decide (o.at_ = ⟨name, -1, false⟩)) := by
  clear h0 h1 h2
  induction ones with
  | nil => rfl
  | cons a r ih =>
   rw [List.find?_cons, List.find?_cons, h3 a (List.mem_cons_self ..), ih fun x hx => h3 x (List.mem_cons_of_mem _ hx)]
 rw [h6]
 rfl
theorem value_wide {ones : List One1} {name : List UInt8} (h0 : firstP ones name 0 = none) {v : Value} (h1 : parF ones ⟨name, -1, true⟩ = some v) : ∃ x ∈ ones, v = .string (ba x.value) ∧ valueP ones name = some (meantP (splitP x.value).1 (openP (splitP x.value).2)) := by
 unfold parF at h1
 obtain ⟨x, hx, rfl⟩ := Option.map_eq_some_iff.1 h1
 refine ⟨x, List.mem_of_find?_eq_some hx, rfl, ?_⟩
 unfold valueP
 rw [h0]
 simp only [hx]
theorem value_sec {ones : List One1} {name : List UInt8} {x : One1} (h0 : firstP ones name 0 = some x) : valueP ones name =
  if x.at_.wide = true then some (meantP (splitP x.value).1 (openP (splitP x.value).2 ++ restG ones name 63 1)) else some (x.value ++ restG ones name 63 1) := by
 unfold valueP
 rw [h0]
structure SecRel (w : World) (ones : List One1) (name base : List UInt8) (k : Nat) (acc : List UInt8) (wr : World) : Prop where
 eq : acc ++ restG ones name (64 - k) k = base ++ restG ones name 63 1
 bel : Below w.heap.size w wr
 len : acc.length ≤ k * 10000000
set_option maxRecDepth 100000 in
theorem value_any (ones : List One1) (name : List UInt8) (bp bf : Nat) (w : World) (hP : PMaps w ones bp bf) (hn : name.length ≤ 1000000000) (hok : onesOk ones) (hT : Tabs w) :
  Calls Tryz.prog 201 #[.map (some bp), .string (ba name), .map (some bf)] w (ValPost w (valueP ones name)) := by
 have HP := Lib.hid hP
 have HT := Lib.hid hT
 have HOK := Lib.hid hok
 have HG0 := Lib.hid (get_any ones name 0 bp bf w hP hn (by omega) (by omega))
 unfold GetPost at HG0
 obtain ⟨⟨c, hp⟩, _⟩ := hP
 have hl1 := hp.look_ok Tryz.underlying193 (zero_str w) (x := ⟨name, -1, true⟩) (fits_spot hn (by omega) (by omega))
 have hl2 := hp.look_ok Tryz.underlying193 (zero_str w) (x := ⟨name, -1, false⟩) (fits_spot hn (by omega) (by omega))
 clear hp hT hok
 cases hf0 : firstP ones name 0 with
 | none =>
  rw [hf0] at HG0
  cases hp1 : parF ones ⟨name, -1, true⟩ with
  | none =>
   have HV := Lib.hid (value_none hf0 hp1)
   rw [hp1] at hl1
   obtain ⟨vo, hvo⟩ : ∃ o, valueP ones name = o := ⟨_, rfl⟩
   rw [hvo] at HV ⊢
   rw [← HV.out] at hl2
   unfold spotK at hl1 hl2
   simp only [spotV] at hl1 hl2
   clear hf0 hp1 hvo
   cases vo with
   | none =>
    go_enter Tryz.func201, Tryz.ntmps201
    go_wp2_with fail
    refine HG0.out.mono ?_
    rintro e w2 ⟨rfl, hw⟩
    have hw2 := hw.symm
    subst hw2
    clear hw
    go_wp2
    go_ret2
    exact ⟨rfl, Below.refl _ _⟩
   | some v =>
    go_enter Tryz.func201, Tryz.ntmps201
    go_wp2_with fail
    refine HG0.out.mono ?_
    rintro e w2 ⟨rfl, hw⟩
    have hw2 := hw.symm
    subst hw2
    clear hw
    go_wp2
    go_ret2
    exact ⟨rfl, Below.refl _ _⟩
  | some v =>
   obtain ⟨x, hx, rfl, hv⟩ := value_wide hf0 hp1
   have HV := Lib.hid hv
   have hxl := (HOK.out x hx).1
   have hsl := splitP_len x.value
   have hol := openP_len _ (splitP x.value).2 (Nat.le_refl _)
   rw [hp1] at hl1
   unfold spotK at hl1
   simp only [spotV] at hl1
   have HSP := Lib.hid (split_any x.value w (by omega) HT.out)
   unfold SplitPost at HSP
   have HXL := Lib.hid hxl
   clear hf0 hp1 hl2 hv hx hxl
   obtain ⟨⟨set_, rest⟩, hss⟩ : ∃ q, splitP x.value = q := ⟨_, rfl⟩
   rw [hss] at HSP HV hsl hol
   have HSL := Lib.hid (And.intro hsl.1 (And.intro hsl.2 hol))
   clear hss hsl hol
   go_enter Tryz.func201, Tryz.ntmps201
   go_wp2_with fail
   refine HG0.out.mono ?_
   rintro e w2 ⟨rfl, hw⟩
   have hw2 := hw.symm
   subst hw2
   clear hw
   go_wp2_with fail
   refine HSP.out.mono ?_
   rintro e w3 ⟨rfl, hb3⟩
   have HB3 := Lib.hid hb3
   have hz3 := hb3.size
   clear hb3
   go_wp2_with fail
   refine (open_any rest w3 (by have h1 : rest.length ≤ x.value.length := HSL.out.2.1; have := HXL.out; omega)).mono ?_
   rintro e w4 ⟨rfl, hb4⟩
   have HB4 := Lib.hid (HB3.out.trans (hb4.mono hz3))
   have hz4 := HB4.out.size
   clear hb4
   go_wp2_with fail
   refine (meant_any set_ (openP rest) w4 (by have h1 : set_.length ≤ x.value.length := HSL.out.1; have := HXL.out; omega) (by have h1 : (openP rest).length ≤ rest.length := HSL.out.2.2; have h2 : rest.length ≤ x.value.length := HSL.out.2.1; have := HXL.out; omega) (HT.out.below HB4.out)).mono ?_
   rintro e w5 ⟨rfl, hb5⟩
   have HB5 := Lib.hid hb5
   clear hb5
   go_wp2
   go_ret2
   exact val_fin HV.out rfl (HB4.out.trans (HB5.out.mono hz4))
 | some x =>
  rw [hf0] at HG0
  have HV := Lib.hid (value_sec hf0)
  have hxl := (HOK.out x (first_mem hf0)).1
  have hsl := splitP_len x.value
  have hol := openP_len _ (splitP x.value).2 (Nat.le_refl _)
  have HSP := Lib.hid (split_any x.value w (by omega) HT.out)
  unfold SplitPost at HSP
  have HXL := Lib.hid hxl
  obtain ⟨xw, hxw⟩ : ∃ b, x.at_.wide = b := ⟨_, rfl⟩
  have hg0 := HG0.out
  simp only [Option.map_some, Option.getD_some, hxw, Option.isSome_some] at hg0
  have HG := Lib.hid hg0
  rw [hxw] at HV
  clear hf0 hl1 hl2 hxl HG0 hg0 hxw
  cases xw
  ·obtain ⟨base, hbase⟩ : ∃ b, x.value = b := ⟨_, rfl⟩
   rw [hbase] at HV HG HXL
   have HVAL := Lib.hid (show valueP ones name = some (base ++ restG ones name 63 1) from HV.out)
   have HBL := Lib.hid (show base.length ≤ 10000000 from HXL.out)
   clear hbase hsl hol
   go_enter Tryz.func201, Tryz.ntmps201
   go_wp2_with fail
   refine HG.out.mono ?_
   rintro e w2 ⟨rfl, hw⟩
   have hw2 := hw.symm
   subst hw2
   clear hw
   have HB0 := Lib.hid (Below.refl w.heap.size w)
   go_wp2
   go_loopw [18, 19, 20, 21, 22, 72] (fun oo i a b c d wr => ∃ (k : Nat) (acc : List UInt8) (xa xb xc xd : Value), a = xa ∧ b = xb ∧ c = xc ∧ d = xd ∧ 1 ≤ k ∧ k ≤ 64 ∧ i = .int .i64 (k : Int) ∧ oo = .string (ba acc) ∧ Hid (SecRel w ones name base k acc wr)) (fun _ i _ _ _ _ _ => 64 - (intOf i).toNat)
   case atStart => exact ⟨1, base, _, _, _, _, rfl, rfl, rfl, rfl, by omega, by omega, rfl, rfl, Lib.hid ⟨rfl, HB0.out, by have := HBL.out; omega⟩⟩
   case round =>
    obtain ⟨k, acc, xa, xb, xc, xd, rfl, rfl, rfl, rfl, hk1, hk2, rfl, rfl, HR⟩ := hrel
    have hszr := HR.out.bel.size
    have hal := HR.out.len
    have HBEX := Lib.hid HR.out.bel
    have HEQ := Lib.hid HR.out.eq
    have HLENX := Lib.hid (show acc.length ≤ 640000000 by omega)
    have HLK := Lib.hid hal
    clear hal HR
    by_cases hlt : k < 64
    ·have hki : (k : Int) < 64 := by omega
     have HGK := Lib.hid (get_any ones name (k : Int) bp bf wr (HP.out.below HBEX.out) hn (by omega) (by omega))
     unfold GetPost at HGK
     cases hfk : firstP ones name (k : Int) with
     | none =>
      rw [hfk] at HGK
      have HACC := Lib.hid (show acc = base ++ restG ones name 63 1 by
       have := HEQ.out
       rw [restG_none _ hfk, List.append_nil] at this
       exact this)
      clear hfk
      go_wp2_with fail
      refine HGK.out.mono ?_
      rintro e w8 ⟨rfl, hw⟩
      have hw2 := hw.symm
      subst hw2
      clear hw
      go_wp2
      go_ret2
      exact val_fin HVAL.out (by rw [HACC.out]) HBEX.out
     | some y =>
      rw [hfk] at HGK
      have hyl := (HOK.out y (first_mem hfk)).1
      have HEQ2 := Lib.hid (show (acc ++ if y.at_.wide = true then openP y.value else y.value) ++ restG ones name (64 - (k + 1)) ((k + 1 : Nat) : Int) = base ++ restG ones name 63 1 by
       have := HEQ.out
       rw [show 64 - k = (64 - (k + 1)) + 1 by omega, restG_some hfk] at this
       rw [List.append_assoc, ← this]
       rfl)
      have hopl := openP_len _ y.value (Nat.le_refl _)
      have HYL := Lib.hid hyl
      have HOPL := Lib.hid hopl
      obtain ⟨yw, hyw⟩ : ∃ b, y.at_.wide = b := ⟨_, rfl⟩
      have hgk := HGK.out
      simp only [Option.map_some, Option.getD_some, hyw, Option.isSome_some] at hgk
      have HGK2 := Lib.hid hgk
      rw [hyw] at HEQ2
      clear hfk hyl hopl hgk HGK hyw
      cases yw
      ·have hap := ba_append acc y.value
       have hln : ¬ 9223372036854775807 < (ba acc).size + (ba y.value).size := by
        rw [ba_size, ba_size]
        have := HLENX.out
        have := HYL.out
        omega
       have HE3 := Lib.hid (show (acc ++ y.value) ++ restG ones name (64 - (k + 1)) ((k + 1 : Nat) : Int) = base ++ restG ones name 63 1 from HEQ2.out)
       have HL3 := Lib.hid (show (acc ++ y.value).length ≤ (k + 1) * 10000000 by rw [List.length_append]; have := HLK.out; have := HYL.out; omega)
       go_wp2_with fail
       refine HGK2.out.mono ?_
       rintro e w8 ⟨rfl, hw⟩
       have hw2 := hw.symm
       subst hw2
       clear hw
       go_wp2
       go_roundw
       case rel => exact ⟨k + 1, acc ++ y.value, _, _, _, _, rfl, rfl, rfl, rfl, by omega, by omega, by go_num, rfl, Lib.hid ⟨HE3.out, HBEX.out, HL3.out⟩⟩
       case measure => simp [intOf] <;> omega
      ·have hap := ba_append acc (openP y.value)
       have hln : ¬ 9223372036854775807 < (ba acc).size + (ba (openP y.value)).size := by
        rw [ba_size, ba_size]
        have := HLENX.out
        have := HYL.out
        have := HOPL.out
        omega
       have HE3 := Lib.hid (show (acc ++ openP y.value) ++ restG ones name (64 - (k + 1)) ((k + 1 : Nat) : Int) = base ++ restG ones name 63 1 from HEQ2.out)
       have HL3 := Lib.hid (show (acc ++ openP y.value).length ≤ (k + 1) * 10000000 by rw [List.length_append]; have := HLK.out; have := HYL.out; have := HOPL.out; omega)
       have HOP := Lib.hid (open_any y.value wr (by have := HYL.out; omega))
       go_wp2_with fail
       refine HGK2.out.mono ?_
       rintro e w8 ⟨rfl, hw⟩
       have hw2 := hw.symm
       subst hw2
       clear hw
       go_wp2_with fail
       refine HOP.out.mono ?_
       rintro e w8 ⟨rfl, hb8⟩
       have HB8 := Lib.hid hb8
       clear hb8
       go_wp2
       go_roundw
       case rel => exact ⟨k + 1, acc ++ openP y.value, _, _, _, _, rfl, rfl, rfl, rfl, by omega, by omega, by go_num, rfl, Lib.hid ⟨HE3.out, HBEX.out.trans (HB8.out.mono hszr), HL3.out⟩⟩
       case measure => simp [intOf] <;> omega
    ·obtain rfl : k = 64 := by omega
     have HACC := Lib.hid (show acc = base ++ restG ones name 63 1 by
      have := HEQ.out
      rw [show restG ones name (64 - 64) ((64 : Nat) : Int) = [] from rfl, List.append_nil] at this
      exact this)
     go_wp2
     go_ret2
     exact val_fin HVAL.out (by rw [HACC.out]) HBEX.out
  ·obtain ⟨⟨set_, rest⟩, hss⟩ : ∃ q, splitP x.value = q := ⟨_, rfl⟩
   rw [hss] at HSP HV hsl hol
   have HSETL := Lib.hid (show set_.length ≤ 1000000000 by have h1 : set_.length ≤ x.value.length := hsl.1; have := HXL.out; omega)
   have HRL := Lib.hid (show rest.length ≤ 1000000000 by have h1 : rest.length ≤ x.value.length := hsl.2; have := HXL.out; omega)
   have HBL := Lib.hid (show (openP rest).length ≤ 10000000 by have h1 : rest.length ≤ x.value.length := hsl.2; have h2 : (openP rest).length ≤ rest.length := hol; have := HXL.out; omega)
   have HOPR := Lib.hid (fun W => open_any rest W HRL.out)
   obtain ⟨base, hbase⟩ : ∃ b, openP rest = b := ⟨_, rfl⟩
   have HVAL := Lib.hid (show valueP ones name = some (meantP set_ (base ++ restG ones name 63 1)) by rw [← hbase]; exact HV.out)
   rw [hbase] at HBL
   simp only [hbase] at HOPR
   clear hbase hsl hol hss
   go_enter Tryz.func201, Tryz.ntmps201
   go_wp2_with fail
   refine HG.out.mono ?_
   rintro e w2 ⟨rfl, hw⟩
   have hw2 := hw.symm
   subst hw2
   clear hw
   go_wp2_with fail
   refine HSP.out.mono ?_
   rintro e w3 ⟨rfl, hb3⟩
   have HB3 := Lib.hid hb3
   have hz3 := hb3.size
   clear hb3
   go_wp2_with fail
   refine (HOPR.out w3).mono ?_
   rintro e w4 ⟨rfl, hb4⟩
   have HB0 := Lib.hid (HB3.out.trans (hb4.mono hz3))
   clear hb4
   go_wp2
   go_loopw [18, 19, 20, 21, 22, 72] (fun oo i a b c d wr => ∃ (k : Nat) (acc : List UInt8) (xa xb xc xd : Value), a = xa ∧ b = xb ∧ c = xc ∧ d = xd ∧ 1 ≤ k ∧ k ≤ 64 ∧ i = .int .i64 (k : Int) ∧ oo = .string (ba acc) ∧ Hid (SecRel w ones name base k acc wr)) (fun _ i _ _ _ _ _ => 64 - (intOf i).toNat)
   case atStart => exact ⟨1, base, _, _, _, _, rfl, rfl, rfl, rfl, by omega, by omega, rfl, rfl, Lib.hid ⟨rfl, HB0.out, by have := HBL.out; omega⟩⟩
   case round =>
    obtain ⟨k, acc, xa, xb, xc, xd, rfl, rfl, rfl, rfl, hk1, hk2, rfl, rfl, HR⟩ := hrel
    have hszr := HR.out.bel.size
    have hal := HR.out.len
    have HBEX := Lib.hid HR.out.bel
    have HEQ := Lib.hid HR.out.eq
    have HLENX := Lib.hid (show acc.length ≤ 640000000 by omega)
    have HLK := Lib.hid hal
    clear hal HR
    by_cases hlt : k < 64
    ·have hki : (k : Int) < 64 := by omega
     have HGK := Lib.hid (get_any ones name (k : Int) bp bf wr (HP.out.below HBEX.out) hn (by omega) (by omega))
     unfold GetPost at HGK
     cases hfk : firstP ones name (k : Int) with
     | none =>
      rw [hfk] at HGK
      have HACC := Lib.hid (show acc = base ++ restG ones name 63 1 by
       have := HEQ.out
       rw [restG_none _ hfk, List.append_nil] at this
       exact this)
      clear hfk
      go_wp2_with fail
      refine HGK.out.mono ?_
      rintro e w8 ⟨rfl, hw⟩
      have hw2 := hw.symm
      subst hw2
      clear hw
      go_wp2_with fail
      refine (meant_any set_ acc wr HSETL.out (by have := HLENX.out; omega) (HT.out.below HBEX.out)).mono ?_
      rintro e w9 ⟨rfl, hb9⟩
      have HB9 := Lib.hid hb9
      clear hb9
      go_wp2
      go_ret2
      exact val_fin HVAL.out (by rw [HACC.out]) (HBEX.out.trans (HB9.out.mono hszr))
     | some y =>
      rw [hfk] at HGK
      have hyl := (HOK.out y (first_mem hfk)).1
      have HEQ2 := Lib.hid (show (acc ++ if y.at_.wide = true then openP y.value else y.value) ++ restG ones name (64 - (k + 1)) ((k + 1 : Nat) : Int) = base ++ restG ones name 63 1 by
       have := HEQ.out
       rw [show 64 - k = (64 - (k + 1)) + 1 by omega, restG_some hfk] at this
       rw [List.append_assoc, ← this]
       rfl)
      have hopl := openP_len _ y.value (Nat.le_refl _)
      have HYL := Lib.hid hyl
      have HOPL := Lib.hid hopl
      obtain ⟨yw, hyw⟩ : ∃ b, y.at_.wide = b := ⟨_, rfl⟩
      have hgk := HGK.out
      simp only [Option.map_some, Option.getD_some, hyw, Option.isSome_some] at hgk
      have HGK2 := Lib.hid hgk
      rw [hyw] at HEQ2
      clear hfk hyl hopl hgk HGK hyw
      cases yw
      ·have hap := ba_append acc y.value
       have hln : ¬ 9223372036854775807 < (ba acc).size + (ba y.value).size := by
        rw [ba_size, ba_size]
        have := HLENX.out
        have := HYL.out
        omega
       have HE3 := Lib.hid (show (acc ++ y.value) ++ restG ones name (64 - (k + 1)) ((k + 1 : Nat) : Int) = base ++ restG ones name 63 1 from HEQ2.out)
       have HL3 := Lib.hid (show (acc ++ y.value).length ≤ (k + 1) * 10000000 by rw [List.length_append]; have := HLK.out; have := HYL.out; omega)
       go_wp2_with fail
       refine HGK2.out.mono ?_
       rintro e w8 ⟨rfl, hw⟩
       have hw2 := hw.symm
       subst hw2
       clear hw
       go_wp2
       go_roundw
       case rel => exact ⟨k + 1, acc ++ y.value, _, _, _, _, rfl, rfl, rfl, rfl, by omega, by omega, by go_num, rfl, Lib.hid ⟨HE3.out, HBEX.out, HL3.out⟩⟩
       case measure => simp [intOf] <;> omega
      ·have hap := ba_append acc (openP y.value)
       have hln : ¬ 9223372036854775807 < (ba acc).size + (ba (openP y.value)).size := by
        rw [ba_size, ba_size]
        have := HLENX.out
        have := HYL.out
        have := HOPL.out
        omega
       have HE3 := Lib.hid (show (acc ++ openP y.value) ++ restG ones name (64 - (k + 1)) ((k + 1 : Nat) : Int) = base ++ restG ones name 63 1 from HEQ2.out)
       have HL3 := Lib.hid (show (acc ++ openP y.value).length ≤ (k + 1) * 10000000 by rw [List.length_append]; have := HLK.out; have := HYL.out; have := HOPL.out; omega)
       have HOP := Lib.hid (open_any y.value wr (by have := HYL.out; omega))
       go_wp2_with fail
       refine HGK2.out.mono ?_
       rintro e w8 ⟨rfl, hw⟩
       have hw2 := hw.symm
       subst hw2
       clear hw
       go_wp2_with fail
       refine HOP.out.mono ?_
       rintro e w8 ⟨rfl, hb8⟩
       have HB8 := Lib.hid hb8
       clear hb8
       go_wp2
       go_roundw
       case rel => exact ⟨k + 1, acc ++ openP y.value, _, _, _, _, rfl, rfl, rfl, rfl, by omega, by omega, by go_num, rfl, Lib.hid ⟨HE3.out, HBEX.out.trans (HB8.out.mono hszr), HL3.out⟩⟩
       case measure => simp [intOf] <;> omega
    ·obtain rfl : k = 64 := by omega
     have HACC := Lib.hid (show acc = base ++ restG ones name 63 1 by
      have := HEQ.out
      rw [show restG ones name (64 - 64) ((64 : Nat) : Int) = [] from rfl, List.append_nil] at this
      exact this)
     go_wp2_with fail
     refine (meant_any set_ acc wr HSETL.out (by have := HLENX.out; omega) (HT.out.below HBEX.out)).mono ?_
     rintro e w9 ⟨rfl, hb9⟩
     have HB9 := Lib.hid hb9
     clear hb9
     go_wp2
     go_ret2
     exact val_fin HVAL.out (by rw [HACC.out]) (HBEX.out.trans (HB9.out.mono hszr))
theorem cutpre_any (p l : List UInt8) (w : World) :
  Calls Tryz.prog 110 #[.string (ba l), .string (ba p)] w fun e w' => e = .returned (.tuple #[.string (ba (if p.isPrefixOf l = true then l.drop p.length else l)), .bool (p.isPrefixOf l)]) ∧ w' = w :=
 (Tryz.strings_CutPrefix (ba l) (ba p) w).mono fun e w' ⟨he, hw⟩ => ⟨he, hw⟩
theorem dropW_nil {p : UInt8 → Bool} : ∀ {l : List UInt8}, l.dropWhile p = [] ↔ ∀ x ∈ l, p x = true
 | [] => by simp
 | c :: r => by
  rw [List.dropWhile_cons]
  split
  ·rename_i h
   rw [dropW_nil]
   simp [h]
  ·rename_i h
   simp [h]
theorem trim_tabs (x : List UInt8) : ((ba (Lib.trimS x blanksP)).toList == []) = x.all tabB ∧ ((ba (Lib.trimS x blanksP)).toList.isEmpty) = x.all tabB := by
 have hc : ∀ c, blanksP.contains c = tabB c := fun c => by
  unfold blanksP tabB
  rw [Bool.eq_iff_iff]
  simp
 have key : (Lib.trimS x blanksP).isEmpty = x.all tabB := by
  unfold Lib.trimS Lib.trimLeftS Lib.trimRightS
  simp only [hc]
  rw [Bool.eq_iff_iff, List.isEmpty_iff, dropW_nil, List.all_eq_true]
  constructor
  ·intro h c hm
   by_cases hall : (x.reverse.dropWhile tabB) = []
   ·rw [dropW_nil] at hall
    exact hall c (by simpa using hm)
   ·have hne := List.head_dropWhile_not tabB hall
    have := h _ (List.mem_reverse.2 (List.head_mem hall))
    rw [hne] at this
    cases this
  ·intro h c hm
   rw [List.mem_reverse] at hm
   have := (List.dropWhile_suffix (l := x.reverse) tabB).subset hm
   exact h c (by simpa using this)
 rw [ba_toList]
 refine ⟨?_, key⟩
 rw [← key]
 cases Lib.trimS x blanksP <;> rfl
theorem bndP_no {l b : List UInt8} (h : (([45, 45] : List UInt8) ++ b).isPrefixOf l = false) : bndP l b = (false, false) := by
 unfold bndP
 rw [h]
 rfl
theorem bndP_yes {l b r r1 : List UInt8} {s : Bool} (h : (([45, 45] : List UInt8) ++ b).isPrefixOf l = true) (hr : l.drop (b.length + 2) = r) (hs : ([45, 45] : List UInt8).isPrefixOf r = s) (h1 : (if s = true then r.drop 2 else r) = r1) : bndP l b = ((nudeP r1).all tabB, s) := by
 subst hr hs h1
 unfold bndP
 rw [if_pos h]
def BndPost (w : World) (q : Bool × Bool) (e : Ending) (w' : World) : Prop := e = .returned (.tuple #[.bool q.1, .bool q.2]) ∧ Below w.heap.size w w'
set_option maxRecDepth 100000 in
theorem boundary_any (l b : List UInt8) (w : World) (hl : l.length ≤ 1000000000) (hb : b.length ≤ 1000000000000000) :
  Calls Tryz.prog 146 #[.string (ba l), .string (ba b)] w (BndPost w (bndP l b)) := by
 have hap : (⟨#[45, 45]⟩ : ByteArray) ++ ba b = ba ([45, 45] ++ b) := (ba_append [45, 45] b).symm ▸ rfl
 have hln : ¬ 9223372036854775807 < (⟨#[45, 45]⟩ : ByteArray).size + (ba b).size := by rw [ba_size]; show ¬ _ < 2 + b.length; omega
 have HAP := Lib.hid hap
 have HC1 := Lib.hid (fun W => cutpre_any ([45, 45] ++ b) l W)
 cases h1 : (([45, 45] : List UInt8) ++ b).isPrefixOf l with
 | false =>
  have HF := Lib.hid (bndP_no h1)
  simp only [h1] at HC1
  clear h1
  go_enter Tryz.func146, Tryz.ntmps146
  go_wp2_with fail
  refine (HC1.out _).mono ?_
  rintro e w2 ⟨rfl, rfl⟩
  go_wp2
  go_ret2
  unfold BndPost
  rw [HF.out]
  exact ⟨rfl, Below.refl _ _⟩
 | true =>
  simp only [h1] at HC1
  obtain ⟨r, hr⟩ : ∃ r, l.drop (b.length + 2) = r := ⟨_, rfl⟩
  have hrl : r.length ≤ 1000000000 := by rw [← hr, List.length_drop]; omega
  obtain ⟨s, hs⟩ : ∃ s, ([45, 45] : List UInt8).isPrefixOf r = s := ⟨_, rfl⟩
  obtain ⟨r1, hr1⟩ : ∃ r1, (if s = true then r.drop 2 else r) = r1 := ⟨_, rfl⟩
  have hr1l : r1.length ≤ 1000000000 := by rw [← hr1]; split; rw [List.length_drop]; omega; exact hrl
  have HF := Lib.hid (bndP_yes h1 hr hs hr1)
  have HC2 := Lib.hid (fun W => cutpre_any [45, 45] r W)
  simp only [hs] at HC2
  have e2 : ([45, 45] ++ b : List UInt8).length = b.length + 2 := by simp
  simp only [if_true, e2, hr] at HC1
  have HC3 := Lib.hid (fun W => cutsuf_any 10 r1 W hr1l)
  have HC2' := Lib.hid (show ∀ W, Calls Tryz.prog 110 #[.string (ba r), .string ⟨#[45, 45]⟩] W fun e w' => e = .returned (.tuple #[.string (ba r1), .bool s]) ∧ w' = W from fun W => by
   have := HC2.out W
   rw [show (if s = true then r.drop ([45, 45] : List UInt8).length else r) = r1 from hr1] at this
   exact this)
  clear h1 hr hs hr1 e2 HC2
  by_cases h10 : r1.getLast? = some 10
  ·have HT := Lib.hid (fun W => trimsuf_any 13 (trimC 10 r1) W (by unfold trimC; rw [if_pos h10, List.length_dropLast]; omega))
   have HN := Lib.hid (show nudeP r1 = trimC 13 (trimC 10 r1) by unfold nudeP trimC; rw [if_pos h10, if_pos h10])
   have HNL := nudeP_len r1
   obtain ⟨x, hx⟩ : ∃ x, nudeP r1 = x := ⟨_, rfl⟩
   rw [hx] at HN HF HNL
   rw [← HN.out] at HT
   rw [decide_eq_true h10] at HC3
   have HTR := Lib.hid (fun W => htrim_any x W (by omega))
   have ht := trim_tabs x
   have g1 := ht.1
   have g2 := ht.2
   clear h10 hx HN ht
   unfold StrB at HTR
   go_enter Tryz.func146, Tryz.ntmps146
   go_wp2_with fail
   refine (HC1.out _).mono ?_
   rintro e w2 ⟨rfl, rfl⟩
   go_wp2_with fail
   refine (HC2'.out _).mono ?_
   rintro e w2 ⟨rfl, rfl⟩
   go_wp2_with fail
   refine (HC3.out _).mono ?_
   rintro e w2 ⟨rfl, rfl⟩
   go_wp2_with fail
   refine (HT.out _).mono ?_
   rintro e w2 ⟨rfl, rfl⟩
   go_wp2_with fail
   refine (HTR.out _).mono ?_
   rintro e w2 ⟨rfl, hb2⟩
   have HB2 := Lib.hid hb2
   clear hb2
   go_wp2
   go_ret2
   unfold BndPost
   rw [HF.out]
   exact ⟨rfl, HB2.out⟩
  ·have HN := Lib.hid (show nudeP r1 = r1 by unfold nudeP; rw [if_neg h10])
   rw [HN.out] at HF
   rw [decide_eq_false h10] at HC3
   have HTR := Lib.hid (fun W => htrim_any r1 W (by omega))
   have ht := trim_tabs r1
   have g1 := ht.1
   have g2 := ht.2
   clear h10 HN ht
   unfold StrB at HTR
   go_enter Tryz.func146, Tryz.ntmps146
   go_wp2_with fail
   refine (HC1.out _).mono ?_
   rintro e w2 ⟨rfl, rfl⟩
   go_wp2_with fail
   refine (HC2'.out _).mono ?_
   rintro e w2 ⟨rfl, rfl⟩
   go_wp2_with fail
   refine (HC3.out _).mono ?_
   rintro e w2 ⟨rfl, rfl⟩
   go_wp2_with fail
   refine (HTR.out _).mono ?_
   rintro e w2 ⟨rfl, hb2⟩
   have HB2 := Lib.hid hb2
   clear hb2
   go_wp2
   go_ret2
   unfold BndPost
   rw [HF.out]
   exact ⟨rfl, HB2.out⟩
end Go.Proofs.YthidbmeaccpjdaaGreatDoor
