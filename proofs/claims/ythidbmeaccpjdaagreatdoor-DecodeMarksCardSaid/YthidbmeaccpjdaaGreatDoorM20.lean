/- Layer 6: the contract of values (the table of base64). Layer 6: the contract of UnQp (printed by gen_unqp. -/
import Derived.Deep.WholeRow
import Derived.Laws.BitsLemmas
import Derived.Test.YthidbmeaccpjdaaGreatDoorM19
import Derived.Test.YthidbmeaccpjdaaGreatDoorM04
namespace Go.Proofs.YthidbmeaccpjdaaGreatDoor
open Go.RowKit
set_option linter.unusedVariables false
set_option maxHeartbeats 4000000
theorem exec_load_arr {P : Program} {ev : Operand → Value} {o : Oper} {p : Operand} {T : TypeId} {ad : Addr} {n : Nat} {c : Array Value} {w : World} (ho : o.op = .load T p) (hp : ev p = .pointer (some ad)) (hag : ∀ w, (isAgg T).run P w = .ok true w) (hso : ∀ w, (sizeOf T).run P w = .ok n w) (h : (loadCellsFrom ad 0 n #[]).run P w = .ok c w) :
  (execOp ev o).run P w = .ok (.value (.agg c)) w := by
 simp [execOp, go_sem, ho, hp, hag, hso, h, Result.andThen]
theorem loadVar_arr {P : Program} {T : TypeId} {ad : Addr} {n : Nat} {c : Array Value} {w : World} (hag : ∀ w, (isAgg T).run P w = .ok true w) (hso : ∀ w, (sizeOf T).run P w = .ok n w) (h : (loadCellsFrom ad 0 n #[]).run P w = .ok c w) :
  (loadVar T ad).run P w = .ok (.agg c) w := by
 simp [loadVar, loadCells, Sem.run_bind, hag, hso, h, Result.andThen]
theorem results_arr {P : Program} {fn : Func} {p : Tmp} {ty : TypeId} {v : Value} (h : fn.results = #[.cell p ty]) (tmps : Array Value) (w : World) (ad : Addr) (hp : tmps.getD p undef = .pointer (some ad)) (hl : (loadVar ty ad).run P w = .ok v w) :
  (results fn tmps).run P w = .ok v w := by
 have hp' : tmps[p]?.getD undef = .pointer (some ad) := by simpa using hp
 simp [results, h, hp', asAddr, hl]
def tabL (i : Nat) : List UInt8 := (List.range 256).map fun c => if b64V (UInt8.ofNat c) ≤ i then UInt8.ofNat (b64V (UInt8.ofNat c)) else 0
theorem tabL_len (i : Nat) : (tabL i).length = 256 := by unfold tabL; simp
theorem tabL_zero : tabL 0 = List.replicate 256 0 := by decide +kernel
theorem tabL_set : ∀ k : Fin 64, (tabL k.val).set (b64C k.val).toNat (UInt8.ofNat (k.val + 1)) = tabL (k.val + 1) := by decide +kernel
theorem tabL_get (c : UInt8) (h : c.toNat < (tabL 64).length) : (tabL 64)[c.toNat].toNat = b64V c := u8_all (fun c => ∀ h : c.toNat < (tabL 64).length, (tabL 64)[c.toNat].toNat = b64V c) (by decide +kernel) c h
theorem b64V_bd (c : UInt8) : b64V c ≤ 64 := u8_all (fun c => b64V c ≤ 64) (by decide +kernel) c
noncomputable def zTab : Array Value := ((Tryz.prog.info? 95).bind (·.zero)).elim #[] (·.cells)
theorem zTab_size : zTab.size = 256 := by kernel_rfl
def isZ8 : Value → Bool
 | .int .u8 0 => true
 | _ => false
theorem isZ8_eq {v : Value} (h : isZ8 v = true) : v = .int .u8 0 := by
 unfold isZ8 at h
 split at h
 ·rfl
 ·cases h
theorem zTab_all : zTab.toList.all isZ8 = true := by kernel_rfl
theorem zTab_at {i : Nat} (h : i < 256) : zTab[i]? = some (.int .u8 0) := by
 have hs : i < zTab.size := by rw [zTab_size]; exact h
 rw [Array.getElem?_eq_getElem hs]
 have := List.all_eq_true.1 zTab_all zTab[i] (by simp)
 rw [isZ8_eq this]
theorem zTab_row (w : World) (T : TypeId) : ByteRow (w.alloc (.cells zTab T)) w.heap.size (List.replicate 256 0) := by
 refine ⟨zTab, T, (0, 0), (MapKept.heap_alloc w _).1, fun j hj => ?_, .inr rfl⟩
 rw [List.length_replicate] at hj
 rw [zTab_at hj, List.getElem_replicate]
 rfl
theorem zTab_agg : ((Tryz.prog.info? 95).bind (·.zero)).elim false (fun z => match z with | .agg _ => true | _ => false) = true := by kernel_rfl
theorem zTab_some : ((Tryz.prog.info? 95).bind (·.zero)).isSome = true := by kernel_rfl
theorem size_tab : (Tryz.prog.info? 95).map (·.size) = some 256 := by kernel_rfl
theorem zTab_val (w : World) : (zeroValue 95).run Tryz.prog w = .ok (.agg zTab) w := by
 have h0 := zTab_some
 cases hi : Tryz.prog.info? 95 with
 | none => rw [hi] at h0; cases h0
 | some it =>
  rw [hi] at h0
  cases hz : it.zero with
  | none => simp [hz] at h0
  | some z =>
   have hzz : z = .agg zTab := by
    have h1 := zTab_agg
    simp only [hi, Option.bind_some, hz, Option.elim_some] at h1
    cases z with
    | agg c => simp [zTab, hi, hz, Value.cells]
    | _ => cases h1
   simp [zeroValue, typeInfo, hi, hz, hzz]
def tabC : Array Value := (Lib.byteCells (tabL 64)).toArray
theorem tab_load {w : World} {b : Nat} (h : ByteRow w b (tabL 64)) : (loadCellsFrom ⟨b, 0, none⟩ 0 256 #[]).run Tryz.prog w = .ok tabC w := by
 have := run_loadCells_list (P := Tryz.prog) w ⟨b, 0, none⟩ (Lib.byteCells (tabL 64)) (fun j v hv => by
  have hj : j < (tabL 64).length := by
   have := (List.getElem?_eq_some_iff.1 hv).1
   rwa [Lib.byteCells_length] at this
  rw [h.cells j hj]
  have e : (Lib.byteCells (tabL 64))[j]? = some (.int .u8 ((tabL 64)[j].toNat : Int)) := by unfold Lib.byteCells; simp [hj]
  rw [e] at hv
  exact hv)
 rw [Lib.byteCells_length, tabL_len] at this
 exact this
theorem b64A_at (k : Nat) (h : k < 64) (h2 : k < (⟨#[65, 66, 67, 68, 69, 70, 71, 72, 73, 74, 75, 76, 77, 78, 79, 80, 81, 82, 83, 84, 85, 86, 87, 88, 89, 90, 97, 98, 99, 100, 101, 102, 103, 104, 105, 106, 107, 108, 109, 110, 111, 112, 113, 114, 115, 116, 117, 118, 119, 120, 121, 122, 48, 49, 50, 51, 52, 53, 54, 55, 56, 57, 43, 47]⟩ : ByteArray).size) : (((⟨#[65, 66, 67, 68, 69, 70, 71, 72, 73, 74, 75, 76, 77, 78, 79, 80, 81, 82, 83, 84, 85, 86, 87, 88, 89, 90, 97, 98, 99, 100, 101, 102, 103, 104, 105, 106, 107, 108, 109, 110, 111, 112, 113, 114, 115, 116, 117, 118, 119, 120, 121, 122, 48, 49, 50, 51, 52, 53, 54, 55, 56, 57, 43, 47]⟩ : ByteArray)[k]'h2).toNat : Int) = ((b64C k).toNat : Int) := by
 have e : b64C k = (ba b64A)[k]'h2 := by
  unfold b64C
  rw [List.getD_eq_getElem?_getD, List.getElem?_eq_getElem (by exact h), Option.getD_some]
  rfl
 rw [e]
 rfl
theorem store_bytes (b : Nat) : ∀ (t l : List UInt8) (i : Nat) (w : World), ByteRow w b l → i + t.length ≤ l.length → ∃ w' l', (storeCells ⟨b, 0, none⟩ (Lib.byteCells t) i).run Tryz.prog w = .ok () w' ∧ (∀ B, B ≤ b → Below B w w') ∧ ByteRow w' b l' ∧ l' = l.take i ++ t ++ l.drop (i + t.length)
 | [], l, i, w, h, _ => ⟨w, l, rfl, fun B _ => Below.refl B w, h, by simp⟩
 | c :: r, l, i, w, h, hl => by
  rw [List.length_cons] at hl
  have hi : i < l.length := by omega
  obtain ⟨w', l', h1, h2, h3, h4⟩ := store_bytes b r (l.set i c) (i + 1) _ (h.set hi c) (by rw [List.length_set]; omega)
  have hst : (store ((⟨b, 0, none⟩ : Addr).add i) (.int .u8 (c.toNat : Int))).run Tryz.prog w = .ok () (w.setCell ⟨b, i, none⟩ (.int .u8 (c.toNat : Int))) := by
   have ha : (⟨b, 0, none⟩ : Addr).add i = ⟨b, i, none⟩ := by unfold Addr.add; split <;> simp_all
   rw [ha, run_store _ _ _ _ _ rfl, h.cell hi, h.free hi]
   rfl
  refine ⟨w', l', ?_, fun B hB => ((Below.refl B w).setCell (p := ⟨b, i, none⟩) hB _).trans (h2 B hB), h3, ?_⟩
  ·show (storeCells ⟨b, 0, none⟩ (.int .u8 (c.toNat : Int) :: Lib.byteCells r) i).run Tryz.prog w = _
   rw [storeCells, Sem.run_bind, hst]
   exact h1
  ·rw [h4, List.length_cons, show i + (r.length + 1) = i + 1 + r.length by omega, List.drop_set_of_lt (by omega)]
   rw [List.take_set, List.take_succ_eq_append_getElem hi, List.set_append_right _ _ (by rw [List.length_take]; omega)]
   have : i - (l.take i).length = 0 := by rw [List.length_take]; omega
   rw [this]
   simp
theorem tab_store {w : World} {b : Nat} (h : ByteRow w b (tabL 64)) : ∃ w', (storeCells ⟨b, 0, none⟩ tabC.toList 0).run Tryz.prog w = .ok () w' ∧ (∀ B, B ≤ b → Below B w w') ∧ ByteRow w' b (tabL 64) := by
 obtain ⟨w', l', h1, h2, h3, h4⟩ := store_bytes b (tabL 64) (tabL 64) 0 w h (by omega)
 refine ⟨w', h1, h2, ?_⟩
 rw [h4] at h3
 simpa using h3
set_option maxRecDepth 100000 in
theorem values_any (w : World) : Calls Tryz.prog 81 #[] w fun e w' => e = .returned (.agg tabC) ∧ Below w.heap.size w w' := by
 have hz := zTab_val
 have HZ := Lib.hid (show ByteRow (w.alloc (.cells zTab 95)) w.heap.size (tabL 0) by
  rw [tabL_zero]
  exact zTab_row w _)
 go_enter Tryz.func81, Tryz.ntmps81
 go_wp2
 go_loopw [1, 2] (fun a i wr => ∃ (k : Nat) (y : Value), a = y ∧ k ≤ 64 ∧ i = .int .i64 (k : Int) ∧ Hid (ByteRow wr w.heap.size (tabL k) ∧ Below w.heap.size w wr)) (fun _ i _ => 64 - (intOf i).toNat)
 case atStart => exact ⟨0, _, rfl, by omega, rfl, Lib.hid ⟨HZ.out, (Below.refl _ _).alloc (Nat.le_refl _) _⟩⟩
 case round =>
  obtain ⟨k, y, rfl, hk, rfl, HR⟩ := hrel
  by_cases hlt : k < 64
  ·have hk2 : (k : Int) < 64 := by omega
   have hk0 : (0 : Int) ≤ (k : Int) := by omega
   have hg1 := b64A_at k hlt
   have HST := Lib.hid (tabL_set ⟨k, hlt⟩)
   obtain ⟨D, hD⟩ : ∃ D, (b64C k).toNat = D := ⟨_, rfl⟩
   have hD2 : D < 256 := by rw [← hD]; exact (b64C k).toNat_lt
   dsimp only at HST
   rw [hD] at HST
   simp only [hD] at hg1
   have hDl : D < (tabL k).length := by rw [tabL_len]; exact hD2
   have hcell := HR.out.1.cell hDl
   have hfree := HR.out.1.free hDl
   have HSET := Lib.hid (HR.out.1.set hDl (UInt8.ofNat (k + 1)))
   have hDi : (D : Int) < 256 := by omega
   have hD0 : (0 : Int) ≤ (D : Int) := by omega
   have HU := Lib.hid (show ((UInt8.ofNat (k + 1)).toNat : Int) = (k : Int) + 1 by rw [UInt8.toNat_ofNat']; omega)
   obtain ⟨z, hzc⟩ : ∃ z, (((tabL k)[D]'hDl).toNat : Int) = z := ⟨_, rfl⟩
   rw [hzc] at hcell
   clear hD hDl hzc
   go_wp2
   go_roundw
   case rel =>
    refine ⟨k + 1, _, rfl, by omega, by go_num, Lib.hid ⟨?_, HR.out.2.setCell (Nat.le_refl _) _⟩⟩
    rw [← HST.out]
    have := HSET.out
    rw [HU.out] at this
    exact this
   case measure => simp [intOf] <;> omega
  ·obtain rfl : k = 64 := by omega
   have hld := tab_load HR.out.1
   obtain ⟨w5, hst, hb5, hr5⟩ := tab_store HR.out.1
   have hb6 := HR.out.2.trans ((hb5 _ (Nat.le_refl _)))
   have HB6 := Lib.hid hb6
   have hl2 := tab_load hr5
   clear hb5 hb6 HR
   go_wp2
   unfold Oper.wp
   rw [exec_load_arr rfl rfl Tryz.isAgg95 Tryz.sizeOf95 hld, Oper.upon_value]
   go_wp2
   refine bodyPost_ret (v := .agg tabC) ?_ rfl ⟨rfl, HB6.out⟩
   exact results_arr rfl _ _ _ rfl (loadVar_arr Tryz.isAgg95 Tryz.sizeOf95 hl2)
theorem hassuf_any (c : UInt8) (l : List UInt8) (w : World) (hl : l.length ≤ 1000000000) :
  Calls Tryz.prog 84 #[.string (ba l), .string ⟨#[c]⟩] w fun e w' => e = .returned (.bool (decide (l.getLast? = some c))) ∧ w' = w := by
 refine (Tryz.strings_HasSuffix (ba l) ⟨#[c]⟩ w (by rw [ba_size]; omega)).mono ?_
 rintro e w' ⟨rfl, rfl⟩
 refine ⟨?_, rfl⟩
 have e2 : Lib.hasSuffix (ba l).data.toList (⟨#[c]⟩ : ByteArray).data.toList = decide (l.getLast? = some c) := by rw [ba_list]; exact suffix_one c l
 rw [e2]
theorem last_split {l : List UInt8} {c : UInt8} (h : l.getLast? = some c) : ∃ a, l = a ++ [c] := by
 rcases List.eq_nil_or_concat l with rfl | ⟨t, d, rfl⟩
 ·cases h
 ·rw [List.concat_eq_append, List.getLast?_append] at h
  have : d = c := by simpa using h
  exact ⟨t, by rw [List.concat_eq_append, this]⟩
theorem qp_soft {a x t : List UInt8} {m : Bool} {e : List UInt8} (hx : (if m = true then (if a.getLast? = some 13 then (a.dropLast, [13, 10]) else (a, [10])) else (a, ([] : List UInt8))) = (x, e)) (ht : nakedP x = t ++ [61]) : qpLine a m = unqP t := by
 unfold qpLine
 simp only [hx, ht]
 rw [if_pos (by simp), List.dropLast_concat]
theorem qp_hard {a x : List UInt8} {m : Bool} {e : List UInt8} (hx : (if m = true then (if a.getLast? = some 13 then (a.dropLast, [13, 10]) else (a, [10])) else (a, ([] : List UInt8))) = (x, e)) (ht : (nakedP x).getLast? ≠ some 61) : qpLine a m = unqP (nakedP x) ++ e := by
 unfold qpLine
 simp only [hx]
 rw [if_neg ht]
structure UpRel (w : World) (l r : List UInt8) (wr : World) : Prop where
 ex : ∃ acc, Bld wr w.heap.size w.heap.size acc ∧ acc ++ unqpP r = unqpP l ∧ acc.length + r.length ≤ l.length
 bel : Below w.heap.size w wr
set_option maxRecDepth 100000 in
theorem unqp_any (l : List UInt8) (w : World) (hl : l.length ≤ 1000000000) (hT : Tabs w) :
  Calls Tryz.prog 38 #[.string (ba l)] w (StrB w (unqpP l)) := by
 have HB0 := Lib.hid (bld_new w)
 have HL := Lib.hid hl
 have HT := Lib.hid hT
 obtain ⟨L, hL⟩ : ∃ L, l = L := ⟨_, rfl⟩
 have HREL := Lib.hid (show ∀ wr, wr = w.alloc (.cells #[.pointer none, .slice none 0 0] 64) → UpRel w l l wr from by
  rintro wr rfl
  exact ⟨⟨[], HB0.out, rfl, by simp⟩, (Below.refl _ _).alloc (Nat.le_refl _) _⟩)
 clear hl hT
 rw [hL]
 rw [hL] at HREL HL
 clear hL HB0
 go_enter Tryz.func38, Tryz.ntmps38
 go_wp2
 go_loopw [0, 4, 5, 6, 7] (fun s a b c d wr => ∃ (r : List UInt8) (y z u v : Value), a = y ∧ b = z ∧ c = u ∧ d = v ∧ s = .string (ba r) ∧ Hid (UpRel w L r wr)) (fun s _ _ _ _ _ => Lib.strSize s)
 case atStart => exact ⟨L, _, _, _, _, rfl, rfl, rfl, rfl, rfl, Lib.hid (HREL.out _ rfl)⟩
 case round =>
  obtain ⟨r, y, z, u, v, rfl, rfl, rfl, rfl, rfl, HR⟩ := hrel
  obtain ⟨acc, hbld, heq, hal⟩ := HR.out.ex
  have HBL := Lib.hid hbld
  have HEQ := Lib.hid heq
  have HBE := Lib.hid HR.out.bel
  have hszr := HR.out.bel.size
  have HAL := Lib.hid hal
  have hrl : r.length ≤ 1000000000 := by have := HL.out; omega
  have hac : acc.length ≤ 1000000000 := by have := HL.out; omega
  have HTR := Lib.hid (HT.out.below HBE.out)
  clear hbld heq hal HR
  by_cases hne : r = []
  ·subst hne
   have g1 : (ba ([] : List UInt8)).toList.isEmpty = true := by rw [ba_toList]; rfl
   have HE := Lib.hid (show acc = unqpP L by rw [← HEQ.out, unqpP_nil, List.append_nil])
   go_wp2_with fail
   refine (bld_string _ _ _ wr HBL.out hszr).mono ?_
   rintro e w2 ⟨rfl, hW⟩
   have HW := Lib.hid hW
   clear hW
   go_wp2
   go_ret
   exact str_fin (by rw [HE.out]) (HBE.out.trans HW.out.bel)
  have g1 : (ba r).toList.isEmpty = false := by rw [ba_toList]; cases r with | nil => exact absurd rfl hne | cons c r => rfl
  have HRP := Lib.hid (List.length_pos_iff.2 hne)
  have HCU := Lib.hid (cut_any 10 r wr hrl HTR.out)
  unfold CutPost at HCU
  have HZR := Lib.hid (show (ba r).size = r.length by rw [ba_size])
  cases hcp : cutP 10 r with
  | none =>
   have hcv : cutV 10 r = (r, [], false) := by unfold cutV; rw [hcp]
   rw [hcv] at HCU
   have HXE := Lib.hid (show (if false = true then (if r.getLast? = some 13 then (r.dropLast, [13, 10]) else (r, [10])) else (r, ([] : List UInt8))) = (r, []) from rfl)
   clear hcv
   by_cases ht : (nakedP r).getLast? = some 61
   ·obtain ⟨t, ht⟩ := last_split ht
    have HQ := Lib.hid (show qpLine r false = unqP t from qp_soft HXE.out ht)
    have HU := Lib.hid (show unqpP r = qpLine r false from unqpP_last hne hcp)
    have htl : t.length + 1 ≤ r.length := by have := nakedP_len r; rw [ht] at this; simpa using this
    have hx3 : (ba (nakedP r)).extract 0 t.length = ba t := by rw [ht, ba_cut]; simp
    have hz3 : ((ba (nakedP r)).size : Int) = (t.length : Int) + 1 := by rw [ht, ba_size]; simp
    have HS3 := Lib.hid (show decide ((nakedP r).getLast? = some 61) = true by rw [ht]; simp)
    have hti : (t.length : Int) ≤ 1000000000 := by omega
    have ht0 : (0 : Int) ≤ (t.length : Int) := by omega
    have ht1 : (t.length : Int) ≤ (t.length : Int) + 1 := by omega
    have hql := unqP_len _ (t) (Nat.le_refl _)
    have HNS := Lib.hid (fun W => hassuf_any 61 (nakedP r) W (by have := nakedP_len r; omega))
    simp only [HS3.out] at HNS
    have HTRM := Lib.hid (show ∀ W, Calls Tryz.prog 85 #[.string (ba r), .string ⟨#[32, 9]⟩] W (StrB W (nakedP r)) from fun W => htrimR_any r W (by omega))
    have HUE := Lib.hid (fun W => unescape_any (t) W (by omega))
    unfold StrB at HTRM HUE
    have hap : ba (unqP (t)) ++ ⟨#[]⟩ = ba (unqP (t)) := by have h := ba_append (unqP (t)) []; rw [List.append_nil] at h; exact h
    have hln : ¬ 9223372036854775807 < (ba (unqP (t))).size + (⟨#[]⟩ : ByteArray).size := by rw [ba_size]; show ¬ _ < _ + 0; omega
    have hln2 : ¬ 9223372036854775807 < (ba (unqP (t))).size := by rw [ba_size]; omega
    have HLEN := Lib.hid (show (unqP (t)).length ≤ r.length by first | omega | (rw [List.length_append]; simp; omega))
    clear hne hcp ht hql htl
    go_wp2_with fail
    refine HCU.out.mono ?_
    rintro e w2 ⟨rfl, nn, rfl⟩
    obtain ⟨w2, hw2⟩ : ∃ W, wr.drewN nn = W := ⟨_, rfl⟩
    have HB2 := Lib.hid (show Below w.heap.size w w2 by rw [← hw2]; exact below_drewN HBE.out nn)
    have HBL2 := Lib.hid (show Bld w2 w.heap.size w.heap.size acc by rw [← hw2]; exact HBL.out.below (below_drewN (Below.refl _ _) nn))
    rw [hw2]
    clear hw2
    go_wp2_with fail
    refine (HTRM.out _).mono ?_
    rintro e w3 ⟨rfl, hb3⟩
    have HB3 := Lib.hid (HB2.out.trans (hb3.mono HB2.out.size))
    have HBL3 := Lib.hid (HBL2.out.below hb3)
    clear hb3
    go_wp2_with fail
    refine (HNS.out _).mono ?_
    rintro e w4 ⟨rfl, hw⟩
    have hw2 := hw.symm
    subst hw2
    clear hw
    go_wp2_with fail
    refine (HUE.out _).mono ?_
    rintro e w4 ⟨rfl, hb4⟩
    have HB4 := Lib.hid (HB3.out.trans (hb4.mono HB3.out.size))
    have HWS := Lib.hid (write_string _ _ acc (unqP (t)) w4 (HBL3.out.below hb4) (by have := HLEN.out; omega) HB4.out.size)
    clear hb4
    go_wp2_with fail
    refine HWS.out.mono ?_
    rintro e w5 ⟨rfl, hW⟩
    have HN := Lib.hid (show UpRel w L [] w5 from ⟨⟨acc ++ (unqP (t)), hW.bld, by rw [← HEQ.out, HU.out, HQ.out]; simp [unqpP_nil], by have := HAL.out; have := HLEN.out; rw [List.length_append]; simp at this ⊢; omega⟩, HB4.out.trans hW.bel⟩)
    clear hW
    go_wp2
    go_roundw
    case rel => exact ⟨[], _, _, _, _, rfl, rfl, rfl, rfl, rfl, HN⟩
    case measure => rw [Lib.strSize_string, Lib.strSize_string, HZR.out, ba_size]; have := HRP.out; simp; omega
   ·skip
    have HQ := Lib.hid (show qpLine r false = unqP (nakedP r) ++ [] from qp_hard HXE.out ht)
    have HU := Lib.hid (show unqpP r = qpLine r false from unqpP_last hne hcp)
    have htl : (nakedP r).length ≤ r.length := nakedP_len r
    have HS3 := Lib.hid (show decide ((nakedP r).getLast? = some 61) = false from decide_eq_false ht)
    have hql := unqP_len _ (nakedP r) (Nat.le_refl _)
    have HNS := Lib.hid (fun W => hassuf_any 61 (nakedP r) W (by have := nakedP_len r; omega))
    simp only [HS3.out] at HNS
    have HTRM := Lib.hid (show ∀ W, Calls Tryz.prog 85 #[.string (ba r), .string ⟨#[32, 9]⟩] W (StrB W (nakedP r)) from fun W => htrimR_any r W (by omega))
    have HUE := Lib.hid (fun W => unescape_any (nakedP r) W (by omega))
    unfold StrB at HTRM HUE
    have hap : ba (unqP (nakedP r)) ++ ⟨#[]⟩ = ba (unqP (nakedP r)) := by have h := ba_append (unqP (nakedP r)) []; rw [List.append_nil] at h; exact h
    have hln : ¬ 9223372036854775807 < (ba (unqP (nakedP r))).size + (⟨#[]⟩ : ByteArray).size := by rw [ba_size]; show ¬ _ < _ + 0; omega
    have hln2 : ¬ 9223372036854775807 < (ba (unqP (nakedP r))).size := by rw [ba_size]; omega
    have HLEN := Lib.hid (show (unqP (nakedP r)).length ≤ r.length by first | omega | (rw [List.length_append]; simp; omega))
    clear hne hcp ht hql htl
    go_wp2_with fail
    refine HCU.out.mono ?_
    rintro e w2 ⟨rfl, nn, rfl⟩
    obtain ⟨w2, hw2⟩ : ∃ W, wr.drewN nn = W := ⟨_, rfl⟩
    have HB2 := Lib.hid (show Below w.heap.size w w2 by rw [← hw2]; exact below_drewN HBE.out nn)
    have HBL2 := Lib.hid (show Bld w2 w.heap.size w.heap.size acc by rw [← hw2]; exact HBL.out.below (below_drewN (Below.refl _ _) nn))
    rw [hw2]
    clear hw2
    go_wp2_with fail
    refine (HTRM.out _).mono ?_
    rintro e w3 ⟨rfl, hb3⟩
    have HB3 := Lib.hid (HB2.out.trans (hb3.mono HB2.out.size))
    have HBL3 := Lib.hid (HBL2.out.below hb3)
    clear hb3
    go_wp2_with fail
    refine (HNS.out _).mono ?_
    rintro e w4 ⟨rfl, hw⟩
    have hw2 := hw.symm
    subst hw2
    clear hw
    go_wp2_with fail
    refine (HUE.out _).mono ?_
    rintro e w4 ⟨rfl, hb4⟩
    have HB4 := Lib.hid (HB3.out.trans (hb4.mono HB3.out.size))
    have HWS := Lib.hid (write_string _ _ acc (unqP (nakedP r)) w4 (HBL3.out.below hb4) (by have := HLEN.out; omega) HB4.out.size)
    clear hb4
    go_wp2_with fail
    refine HWS.out.mono ?_
    rintro e w5 ⟨rfl, hW⟩
    have HN := Lib.hid (show UpRel w L [] w5 from ⟨⟨acc ++ (unqP (nakedP r)), hW.bld, by rw [← HEQ.out, HU.out, HQ.out]; simp [unqpP_nil], by have := HAL.out; have := HLEN.out; rw [List.length_append]; simp at this ⊢; omega⟩, HB4.out.trans hW.bel⟩)
    clear hW
    go_wp2
    go_roundw
    case rel => exact ⟨[], _, _, _, _, rfl, rfl, rfl, rfl, rfl, HN⟩
    case measure => rw [Lib.strSize_string, Lib.strSize_string, HZR.out, ba_size]; have := HRP.out; simp; omega
  | some p =>
   obtain ⟨a, q⟩ := p
   have hcv : cutV 10 r = (a, q, true) := by unfold cutV; rw [hcp]
   rw [hcv] at HCU
   have HCL := Lib.hid (show a.length + 1 + q.length = r.length by rw [(cutP_some hcp).1]; simp; omega)
   have hal : a.length ≤ 1000000000 := by have := HCL.out; omega
   have HHS := Lib.hid (fun W => hassuf_any 13 a W hal)
   clear hcv
   by_cases h13 : a.getLast? = some 13
   ·simp only [decide_eq_true h13] at HHS
    obtain ⟨b, hb⟩ := last_split h13
    have hdl : a.dropLast = b := by rw [hb, List.dropLast_concat]
    have HXE := Lib.hid (show (if true = true then (if a.getLast? = some 13 then (a.dropLast, [13, 10]) else (a, [10])) else (a, ([] : List UInt8))) = (b, [13, 10]) by rw [if_pos rfl, if_pos h13, hdl])
    have hx2 : (ba a).extract 0 b.length = ba b := by rw [hb, ba_cut]; simp
    have hz2 : ((ba a).size : Int) = (b.length : Int) + 1 := by rw [hb, ba_size]; simp
    have hbl : b.length + 1 = a.length := by rw [hb]; simp
    have hbi : (b.length : Int) ≤ 1000000000 := by omega
    have hb0 : (0 : Int) ≤ (b.length : Int) := by omega
    have hb1 : (b.length : Int) ≤ (b.length : Int) + 1 := by omega
    clear hb hdl h13
    by_cases ht : (nakedP b).getLast? = some 61
    ·obtain ⟨t, ht⟩ := last_split ht
     have HQ := Lib.hid (show qpLine a true = unqP t from qp_soft HXE.out ht)
     have HU := Lib.hid (unqpP_more hcp)
     have htl : t.length + 1 ≤ b.length := by have := nakedP_len b; rw [ht] at this; simpa using this
     have hx3 : (ba (nakedP b)).extract 0 t.length = ba t := by rw [ht, ba_cut]; simp
     have hz3 : ((ba (nakedP b)).size : Int) = (t.length : Int) + 1 := by rw [ht, ba_size]; simp
     have HS3 := Lib.hid (show decide ((nakedP b).getLast? = some 61) = true by rw [ht]; simp)
     have hti : (t.length : Int) ≤ 1000000000 := by omega
     have ht0 : (0 : Int) ≤ (t.length : Int) := by omega
     have ht1 : (t.length : Int) ≤ (t.length : Int) + 1 := by omega
     have hql := unqP_len _ (t) (Nat.le_refl _)
     have HNS := Lib.hid (fun W => hassuf_any 61 (nakedP b) W (by have := nakedP_len b; omega))
     simp only [HS3.out] at HNS
     have HTRM := Lib.hid (show ∀ W, Calls Tryz.prog 85 #[.string (ba b), .string ⟨#[32, 9]⟩] W (StrB W (nakedP b)) from fun W => htrimR_any b W (by omega))
     have HUE := Lib.hid (fun W => unescape_any (t) W (by omega))
     unfold StrB at HTRM HUE
     have hap : ba (unqP (t)) ++ ⟨#[]⟩ = ba (unqP (t)) := by have h := ba_append (unqP (t)) []; rw [List.append_nil] at h; exact h
     have hln : ¬ 9223372036854775807 < (ba (unqP (t))).size + (⟨#[]⟩ : ByteArray).size := by rw [ba_size]; show ¬ _ < _ + 0; omega
     have hln2 : ¬ 9223372036854775807 < (ba (unqP (t))).size := by rw [ba_size]; omega
     have HLEN := Lib.hid (show (unqP (t)).length + q.length ≤ r.length by have := HCL.out; first | omega | (rw [List.length_append]; simp at this ⊢; omega))
     clear hne hcp ht hql htl
     go_wp2_with fail
     refine HCU.out.mono ?_
     rintro e w2 ⟨rfl, nn, rfl⟩
     obtain ⟨w2, hw2⟩ : ∃ W, wr.drewN nn = W := ⟨_, rfl⟩
     have HB2 := Lib.hid (show Below w.heap.size w w2 by rw [← hw2]; exact below_drewN HBE.out nn)
     have HBL2 := Lib.hid (show Bld w2 w.heap.size w.heap.size acc by rw [← hw2]; exact HBL.out.below (below_drewN (Below.refl _ _) nn))
     rw [hw2]
     clear hw2
     go_wp2_with fail
     refine (HHS.out _).mono ?_
     rintro e w3 ⟨rfl, hw⟩
     have hw2 := hw.symm
     subst hw2
     clear hw
     go_wp2_with fail
     refine (HTRM.out _).mono ?_
     rintro e w3 ⟨rfl, hb3⟩
     have HB3 := Lib.hid (HB2.out.trans (hb3.mono HB2.out.size))
     have HBL3 := Lib.hid (HBL2.out.below hb3)
     clear hb3
     go_wp2_with fail
     refine (HNS.out _).mono ?_
     rintro e w4 ⟨rfl, hw⟩
     have hw2 := hw.symm
     subst hw2
     clear hw
     go_wp2_with fail
     refine (HUE.out _).mono ?_
     rintro e w4 ⟨rfl, hb4⟩
     have HB4 := Lib.hid (HB3.out.trans (hb4.mono HB3.out.size))
     have HWS := Lib.hid (write_string _ _ acc (unqP (t)) w4 (HBL3.out.below hb4) (by have := HLEN.out; omega) HB4.out.size)
     clear hb4
     go_wp2_with fail
     refine HWS.out.mono ?_
     rintro e w5 ⟨rfl, hW⟩
     have HN := Lib.hid (show UpRel w L q w5 from ⟨⟨acc ++ (unqP (t)), hW.bld, by rw [← HEQ.out, HU.out, HQ.out]; simp, by have := HAL.out; have := HLEN.out; rw [List.length_append]; simp at this ⊢; omega⟩, HB4.out.trans hW.bel⟩)
     clear hW
     go_wp2
     go_roundw
     case rel => exact ⟨q, _, _, _, _, rfl, rfl, rfl, rfl, rfl, HN⟩
     case measure => rw [Lib.strSize_string, Lib.strSize_string, HZR.out, ba_size]; have := HCL.out; omega
    ·skip
     have HQ := Lib.hid (show qpLine a true = unqP (nakedP b) ++ [13, 10] from qp_hard HXE.out ht)
     have HU := Lib.hid (unqpP_more hcp)
     have htl : (nakedP b).length ≤ b.length := nakedP_len b
     have HS3 := Lib.hid (show decide ((nakedP b).getLast? = some 61) = false from decide_eq_false ht)
     have hql := unqP_len _ (nakedP b) (Nat.le_refl _)
     have HNS := Lib.hid (fun W => hassuf_any 61 (nakedP b) W (by have := nakedP_len b; omega))
     simp only [HS3.out] at HNS
     have HTRM := Lib.hid (show ∀ W, Calls Tryz.prog 85 #[.string (ba b), .string ⟨#[32, 9]⟩] W (StrB W (nakedP b)) from fun W => htrimR_any b W (by omega))
     have HUE := Lib.hid (fun W => unescape_any (nakedP b) W (by omega))
     unfold StrB at HTRM HUE
     have hap : ba (unqP (nakedP b)) ++ ⟨#[13, 10]⟩ = ba (unqP (nakedP b) ++ [13, 10]) := (ba_append _ [13, 10]).symm ▸ rfl
     have hln : ¬ 9223372036854775807 < (ba (unqP (nakedP b))).size + (⟨#[13, 10]⟩ : ByteArray).size := by rw [ba_size]; show ¬ _ < _ + 2; omega
     have HLEN := Lib.hid (show (unqP (nakedP b) ++ [13, 10]).length + q.length ≤ r.length by have := HCL.out; first | omega | (rw [List.length_append]; simp at this ⊢; omega))
     clear hne hcp ht hql htl
     go_wp2_with fail
     refine HCU.out.mono ?_
     rintro e w2 ⟨rfl, nn, rfl⟩
     obtain ⟨w2, hw2⟩ : ∃ W, wr.drewN nn = W := ⟨_, rfl⟩
     have HB2 := Lib.hid (show Below w.heap.size w w2 by rw [← hw2]; exact below_drewN HBE.out nn)
     have HBL2 := Lib.hid (show Bld w2 w.heap.size w.heap.size acc by rw [← hw2]; exact HBL.out.below (below_drewN (Below.refl _ _) nn))
     rw [hw2]
     clear hw2
     go_wp2_with fail
     refine (HHS.out _).mono ?_
     rintro e w3 ⟨rfl, hw⟩
     have hw2 := hw.symm
     subst hw2
     clear hw
     go_wp2_with fail
     refine (HTRM.out _).mono ?_
     rintro e w3 ⟨rfl, hb3⟩
     have HB3 := Lib.hid (HB2.out.trans (hb3.mono HB2.out.size))
     have HBL3 := Lib.hid (HBL2.out.below hb3)
     clear hb3
     go_wp2_with fail
     refine (HNS.out _).mono ?_
     rintro e w4 ⟨rfl, hw⟩
     have hw2 := hw.symm
     subst hw2
     clear hw
     go_wp2_with fail
     refine (HUE.out _).mono ?_
     rintro e w4 ⟨rfl, hb4⟩
     have HB4 := Lib.hid (HB3.out.trans (hb4.mono HB3.out.size))
     have HWS := Lib.hid (write_string _ _ acc (unqP (nakedP b) ++ [13, 10]) w4 (HBL3.out.below hb4) (by have := HLEN.out; omega) HB4.out.size)
     clear hb4
     go_wp2_with fail
     refine HWS.out.mono ?_
     rintro e w5 ⟨rfl, hW⟩
     have HN := Lib.hid (show UpRel w L q w5 from ⟨⟨acc ++ (unqP (nakedP b) ++ [13, 10]), hW.bld, by rw [← HEQ.out, HU.out, HQ.out]; simp, by have := HAL.out; have := HLEN.out; rw [List.length_append]; simp at this ⊢; omega⟩, HB4.out.trans hW.bel⟩)
     clear hW
     go_wp2
     go_roundw
     case rel => exact ⟨q, _, _, _, _, rfl, rfl, rfl, rfl, rfl, HN⟩
     case measure => rw [Lib.strSize_string, Lib.strSize_string, HZR.out, ba_size]; have := HCL.out; omega
   ·simp only [decide_eq_false h13] at HHS
    have HXE := Lib.hid (show (if true = true then (if a.getLast? = some 13 then (a.dropLast, [13, 10]) else (a, [10])) else (a, ([] : List UInt8))) = (a, [10]) by rw [if_pos rfl, if_neg h13])
    clear h13
    by_cases ht : (nakedP a).getLast? = some 61
    ·obtain ⟨t, ht⟩ := last_split ht
     have HQ := Lib.hid (show qpLine a true = unqP t from qp_soft HXE.out ht)
     have HU := Lib.hid (unqpP_more hcp)
     have htl : t.length + 1 ≤ a.length := by have := nakedP_len a; rw [ht] at this; simpa using this
     have hx3 : (ba (nakedP a)).extract 0 t.length = ba t := by rw [ht, ba_cut]; simp
     have hz3 : ((ba (nakedP a)).size : Int) = (t.length : Int) + 1 := by rw [ht, ba_size]; simp
     have HS3 := Lib.hid (show decide ((nakedP a).getLast? = some 61) = true by rw [ht]; simp)
     have hti : (t.length : Int) ≤ 1000000000 := by omega
     have ht0 : (0 : Int) ≤ (t.length : Int) := by omega
     have ht1 : (t.length : Int) ≤ (t.length : Int) + 1 := by omega
     have hql := unqP_len _ (t) (Nat.le_refl _)
     have HNS := Lib.hid (fun W => hassuf_any 61 (nakedP a) W (by have := nakedP_len a; omega))
     simp only [HS3.out] at HNS
     have HTRM := Lib.hid (show ∀ W, Calls Tryz.prog 85 #[.string (ba a), .string ⟨#[32, 9]⟩] W (StrB W (nakedP a)) from fun W => htrimR_any a W (by omega))
     have HUE := Lib.hid (fun W => unescape_any (t) W (by omega))
     unfold StrB at HTRM HUE
     have hap : ba (unqP (t)) ++ ⟨#[]⟩ = ba (unqP (t)) := by have h := ba_append (unqP (t)) []; rw [List.append_nil] at h; exact h
     have hln : ¬ 9223372036854775807 < (ba (unqP (t))).size + (⟨#[]⟩ : ByteArray).size := by rw [ba_size]; show ¬ _ < _ + 0; omega
     have hln2 : ¬ 9223372036854775807 < (ba (unqP (t))).size := by rw [ba_size]; omega
     have HLEN := Lib.hid (show (unqP (t)).length + q.length ≤ r.length by have := HCL.out; first | omega | (rw [List.length_append]; simp at this ⊢; omega))
     clear hne hcp ht hql htl
     go_wp2_with fail
     refine HCU.out.mono ?_
     rintro e w2 ⟨rfl, nn, rfl⟩
     obtain ⟨w2, hw2⟩ : ∃ W, wr.drewN nn = W := ⟨_, rfl⟩
     have HB2 := Lib.hid (show Below w.heap.size w w2 by rw [← hw2]; exact below_drewN HBE.out nn)
     have HBL2 := Lib.hid (show Bld w2 w.heap.size w.heap.size acc by rw [← hw2]; exact HBL.out.below (below_drewN (Below.refl _ _) nn))
     rw [hw2]
     clear hw2
     go_wp2_with fail
     refine (HHS.out _).mono ?_
     rintro e w3 ⟨rfl, hw⟩
     have hw2 := hw.symm
     subst hw2
     clear hw
     go_wp2_with fail
     refine (HTRM.out _).mono ?_
     rintro e w3 ⟨rfl, hb3⟩
     have HB3 := Lib.hid (HB2.out.trans (hb3.mono HB2.out.size))
     have HBL3 := Lib.hid (HBL2.out.below hb3)
     clear hb3
     go_wp2_with fail
     refine (HNS.out _).mono ?_
     rintro e w4 ⟨rfl, hw⟩
     have hw2 := hw.symm
     subst hw2
     clear hw
     go_wp2_with fail
     refine (HUE.out _).mono ?_
     rintro e w4 ⟨rfl, hb4⟩
     have HB4 := Lib.hid (HB3.out.trans (hb4.mono HB3.out.size))
     have HWS := Lib.hid (write_string _ _ acc (unqP (t)) w4 (HBL3.out.below hb4) (by have := HLEN.out; omega) HB4.out.size)
     clear hb4
     go_wp2_with fail
     refine HWS.out.mono ?_
     rintro e w5 ⟨rfl, hW⟩
     have HN := Lib.hid (show UpRel w L q w5 from ⟨⟨acc ++ (unqP (t)), hW.bld, by rw [← HEQ.out, HU.out, HQ.out]; simp, by have := HAL.out; have := HLEN.out; rw [List.length_append]; simp at this ⊢; omega⟩, HB4.out.trans hW.bel⟩)
     clear hW
     go_wp2
     go_roundw
     case rel => exact ⟨q, _, _, _, _, rfl, rfl, rfl, rfl, rfl, HN⟩
     case measure => rw [Lib.strSize_string, Lib.strSize_string, HZR.out, ba_size]; have := HCL.out; omega
    ·skip
     have HQ := Lib.hid (show qpLine a true = unqP (nakedP a) ++ [10] from qp_hard HXE.out ht)
     have HU := Lib.hid (unqpP_more hcp)
     have htl : (nakedP a).length ≤ a.length := nakedP_len a
     have HS3 := Lib.hid (show decide ((nakedP a).getLast? = some 61) = false from decide_eq_false ht)
     have hql := unqP_len _ (nakedP a) (Nat.le_refl _)
     have HNS := Lib.hid (fun W => hassuf_any 61 (nakedP a) W (by have := nakedP_len a; omega))
     simp only [HS3.out] at HNS
     have HTRM := Lib.hid (show ∀ W, Calls Tryz.prog 85 #[.string (ba a), .string ⟨#[32, 9]⟩] W (StrB W (nakedP a)) from fun W => htrimR_any a W (by omega))
     have HUE := Lib.hid (fun W => unescape_any (nakedP a) W (by omega))
     unfold StrB at HTRM HUE
     have hap : ba (unqP (nakedP a)) ++ ⟨#[10]⟩ = ba (unqP (nakedP a) ++ [10]) := (ba_append _ [10]).symm ▸ rfl
     have hln : ¬ 9223372036854775807 < (ba (unqP (nakedP a))).size + (⟨#[10]⟩ : ByteArray).size := by rw [ba_size]; show ¬ _ < _ + 1; omega
     have HLEN := Lib.hid (show (unqP (nakedP a) ++ [10]).length + q.length ≤ r.length by have := HCL.out; first | omega | (rw [List.length_append]; simp at this ⊢; omega))
     clear hne hcp ht hql htl
     go_wp2_with fail
     refine HCU.out.mono ?_
     rintro e w2 ⟨rfl, nn, rfl⟩
     obtain ⟨w2, hw2⟩ : ∃ W, wr.drewN nn = W := ⟨_, rfl⟩
     have HB2 := Lib.hid (show Below w.heap.size w w2 by rw [← hw2]; exact below_drewN HBE.out nn)
     have HBL2 := Lib.hid (show Bld w2 w.heap.size w.heap.size acc by rw [← hw2]; exact HBL.out.below (below_drewN (Below.refl _ _) nn))
     rw [hw2]
     clear hw2
     go_wp2_with fail
     refine (HHS.out _).mono ?_
     rintro e w3 ⟨rfl, hw⟩
     have hw2 := hw.symm
     subst hw2
     clear hw
     go_wp2_with fail
     refine (HTRM.out _).mono ?_
     rintro e w3 ⟨rfl, hb3⟩
     have HB3 := Lib.hid (HB2.out.trans (hb3.mono HB2.out.size))
     have HBL3 := Lib.hid (HBL2.out.below hb3)
     clear hb3
     go_wp2_with fail
     refine (HNS.out _).mono ?_
     rintro e w4 ⟨rfl, hw⟩
     have hw2 := hw.symm
     subst hw2
     clear hw
     go_wp2_with fail
     refine (HUE.out _).mono ?_
     rintro e w4 ⟨rfl, hb4⟩
     have HB4 := Lib.hid (HB3.out.trans (hb4.mono HB3.out.size))
     have HWS := Lib.hid (write_string _ _ acc (unqP (nakedP a) ++ [10]) w4 (HBL3.out.below hb4) (by have := HLEN.out; omega) HB4.out.size)
     clear hb4
     go_wp2_with fail
     refine HWS.out.mono ?_
     rintro e w5 ⟨rfl, hW⟩
     have HN := Lib.hid (show UpRel w L q w5 from ⟨⟨acc ++ (unqP (nakedP a) ++ [10]), hW.bld, by rw [← HEQ.out, HU.out, HQ.out]; simp, by have := HAL.out; have := HLEN.out; rw [List.length_append]; simp at this ⊢; omega⟩, HB4.out.trans hW.bel⟩)
     clear hW
     go_wp2
     go_roundw
     case rel => exact ⟨q, _, _, _, _, rfl, rfl, rfl, rfl, rfl, HN⟩
     case measure => rw [Lib.strSize_string, Lib.strSize_string, HZR.out, ba_size]; have := HCL.out; omega
end Go.Proofs.YthidbmeaccpjdaaGreatDoor
