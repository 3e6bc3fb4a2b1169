/- The reference of layer 37: means (printed by gen_rmeans.py). -/
import Derived.Test.YtomcdhmcjndioaaGreatDoorV18
section
namespace Go.Proofs.YtomcdhmcjndioaaGreatDoor
open Go.RowKit
set_option linter.unusedVariables false

theorem named_is (v : List UInt8) : namedQ [105, 115] v = some (if flagQ (smallP v) then some (.mk 5 0 (smallP v) 0 []) else none) := rfl
theorem named_in (v : List UInt8) : namedQ [105, 110] v = some ((decP v 1 1099511627776).map fun n => .mk 6 0 [] n []) := rfl
theorem named_larger (v : List UInt8) : namedQ [108, 97, 114, 103, 101, 114] v = some ((sizeQ v).map fun n => .mk 9 0 [] n []) := rfl
theorem named_smaller (v : List UInt8) : namedQ [115, 109, 97, 108, 108, 101, 114] v = some ((sizeQ v).map fun n => .mk 10 0 [] n []) := rfl
theorem named_before (v : List UInt8) : namedQ [98, 101, 102, 111, 114, 101] v = some ((momentQ v).map fun n => .mk 7 0 [] n []) := rfl
theorem named_after (v : List UInt8) : namedQ [97, 102, 116, 101, 114] v = some ((momentQ v).map fun n => .mk 8 0 [] n []) := rfl
theorem named_no {t : List UInt8} (v : List UInt8) (h0 : t ≠ [105, 115]) (h1 : t ≠ [105, 110]) (h2 : t ≠ [108, 97, 114, 103, 101, 114]) (h3 : t ≠ [115, 109, 97, 108, 108, 101, 114]) (h4 : t ≠ [98, 101, 102, 111, 114, 101]) (h5 : t ≠ [97, 102, 116, 101, 114]) : namedQ t v = none := by
  unfold namedQ
  rw [if_neg h0, if_neg h1, if_neg h2, if_neg h3, if_neg h4, if_neg h5]
/-- The name ahead of the first colon. -/
def nameQ (t : List UInt8) : List UInt8 := t.takeWhile (· != 58)
def restQ (t : List UInt8) : List UInt8 := t.drop ((nameQ t).length + 1)
theorem meansQ_no {t : List UInt8} (h : 58 ∉ t) : meansQ t = plainQ t 0 := by unfold meansQ; rw [if_neg h]
theorem meansQ_field {t : List UInt8} (h : 58 ∈ t) (hf : 0 < fieldQ (nameQ t)) : meansQ t = plainQ (restQ t) (fieldQ (nameQ t)) := by
  unfold meansQ
  rw [if_pos h]
  exact if_pos hf
theorem meansQ_named {t : List UInt8} (h : 58 ∈ t) (hf : fieldQ (nameQ t) = 0) {o : Option Qry} (hn : namedQ (smallP (nameQ t)) (restQ t) = some o) : meansQ t = o := by
  unfold meansQ
  rw [if_pos h]
  show (if 0 < fieldQ (nameQ t) then _ else match namedQ (smallP (nameQ t)) (restQ t) with | some o => o | none => plainQ t 0) = o
  rw [if_neg (by omega), hn]
theorem meansQ_other {t : List UInt8} (h : 58 ∈ t) (hf : fieldQ (nameQ t) = 0) (hn : namedQ (smallP (nameQ t)) (restQ t) = none) : meansQ t = plainQ t 0 := by
  unfold meansQ
  rw [if_pos h]
  show (if 0 < fieldQ (nameQ t) then _ else match namedQ (smallP (nameQ t)) (restQ t) with | some o => o | none => plainQ t 0) = _
  rw [if_neg (by omega), hn]
/-- No colon among the first k bytes. -/
def NoCol (t : List UInt8) (k : Nat) : Prop := ∀ j (h : j < t.length), j < k → t[j] ≠ 58
theorem noCol_step {t : List UInt8} {k : Nat} (h : NoCol t k) (hc : ∀ h : k < t.length, t[k] ≠ 58) : NoCol t (k + 1) := fun j hj hk => by
  by_cases e : j < k
  · exact h j hj e
  · obtain rfl : j = k := by omega
    exact hc hj
theorem noCol_all {t : List UInt8} (h : NoCol t t.length) : 58 ∉ t := fun hm => by
  obtain ⟨j, hj, e⟩ := List.getElem_of_mem hm
  exact h j hj hj e
theorem col_at {t : List UInt8} {k : Nat} (h : NoCol t k) (hk : k < t.length) (hc : t[k] = 58) : 58 ∈ t ∧ nameQ t = t.take k ∧ restQ t = t.drop (k + 1) := by
  have hl : (nameQ t).length = k := by
    unfold nameQ
    have h1 : ∀ (l : List UInt8) (k : Nat) (hk : k < l.length), (∀ j (hj : j < l.length), j < k → l[j] ≠ 58) → l[k] = 58 → (l.takeWhile (· != 58)).length = k := by
      intro l
      induction l with
      | nil => intro k hk; simp at hk
      | cons a r ih =>
        intro k hk h1 h2
        cases k with
        | zero =>
          have : a = 58 := h2
          subst this
          rfl
        | succ k =>
          have ha : a ≠ 58 := h1 0 (by simp) (by omega)
          rw [List.takeWhile_cons_of_pos (by simpa using ha), List.length_cons, ih k (by simpa using hk) (fun j hj hjk => h1 (j + 1) (by simpa using hj) (by omega)) h2]
    exact h1 t k hk h hc
  refine ⟨hc ▸ List.getElem_mem hk, ?_, ?_⟩
  · have h1 := List.prefix_iff_eq_take.1 (List.takeWhile_prefix (p := (· != 58)) (l := t))
    have h2 : (t.takeWhile (· != 58)).length = k := hl
    rw [h2] at h1
    exact h1
  · unfold restQ
    rw [hl]
/-- The box of a piece. -/
def RBox (w : World) (g : Nat) (i j k : Int) (t : List UInt8) (q : Bool) (u : List UInt8) (b : Bool) : Prop := w.heap[g]? = some (.cells #[.int .i64 i, .int .i64 j, .int .i64 k, .string (ba t), .bool q, .string (ba u), .bool b] 51 (0, 0))
theorem RBox.below {w w' : World} {g B : Nat} {i j k : Int} {t u : List UInt8} {q b : Bool} (h : RBox w g i j k t q u b) (hb : Below B w w') (hg : g < B) : RBox w' g i j k t q u b := (hb.block g hg).trans h
theorem RBox.cells {w : World} {g : Nat} {i j k : Int} {t u : List UInt8} {q b : Bool} (h : RBox w g i j k t q u b) : w.cell? ⟨g, 2, none⟩ = some (.int .i64 k) ∧ w.cell? ⟨g, 3, none⟩ = some (.string (ba t)) ∧ w.cell? ⟨g, 4, none⟩ = some (.bool q) ∧ w.cell? ⟨g, 5, none⟩ = some (.string (ba u)) := by
  unfold RBox at h
  refine ⟨?_, ?_, ?_, ?_⟩ <;> (rw [Lib.cell_of_heap h]; rfl)
theorem rbox_new (w : World) (i j k : Int) (t u : List UInt8) (q b : Bool) (o : Obj) : RBox ((w.alloc (.cells #[.int .i64 i, .int .i64 j, .int .i64 k, .string (ba t), .bool q, .string (ba u), .bool b] 51)).alloc o) w.heap.size i j k t q u b :=
  (heap_alloc_old _ _ (by simp)).trans (MapKept.heap_alloc w _).1
set_option maxRecDepth 100000 in
set_option maxHeartbeats 4000000 in
theorem isname_is (w : World) : Calls Tryz.prog 100 #[.string ⟨#[105, 115]⟩] w fun e w' => e = .returned (.bool true) ∧ w = w' := by
  go_enter Tryz.func100, Tryz.ntmps100
  go_wp2
  go_ret
  exact ⟨rfl, rfl⟩
set_option maxRecDepth 100000 in
set_option maxHeartbeats 4000000 in
theorem isname_in (w : World) : Calls Tryz.prog 100 #[.string ⟨#[105, 110]⟩] w fun e w' => e = .returned (.bool true) ∧ w = w' := by
  go_enter Tryz.func100, Tryz.ntmps100
  go_wp2
  go_ret
  exact ⟨rfl, rfl⟩
set_option maxRecDepth 100000 in
set_option maxHeartbeats 4000000 in
theorem isname_larger (w : World) : Calls Tryz.prog 100 #[.string ⟨#[108, 97, 114, 103, 101, 114]⟩] w fun e w' => e = .returned (.bool true) ∧ w = w' := by
  go_enter Tryz.func100, Tryz.ntmps100
  go_wp2
  go_ret
  exact ⟨rfl, rfl⟩
set_option maxRecDepth 100000 in
set_option maxHeartbeats 4000000 in
theorem isname_smaller (w : World) : Calls Tryz.prog 100 #[.string ⟨#[115, 109, 97, 108, 108, 101, 114]⟩] w fun e w' => e = .returned (.bool true) ∧ w = w' := by
  go_enter Tryz.func100, Tryz.ntmps100
  go_wp2
  go_ret
  exact ⟨rfl, rfl⟩
set_option maxRecDepth 100000 in
set_option maxHeartbeats 4000000 in
theorem isname_before (w : World) : Calls Tryz.prog 100 #[.string ⟨#[98, 101, 102, 111, 114, 101]⟩] w fun e w' => e = .returned (.bool true) ∧ w = w' := by
  go_enter Tryz.func100, Tryz.ntmps100
  go_wp2
  go_ret
  exact ⟨rfl, rfl⟩
set_option maxRecDepth 100000 in
set_option maxHeartbeats 4000000 in
theorem isname_after (w : World) : Calls Tryz.prog 100 #[.string ⟨#[97, 102, 116, 101, 114]⟩] w fun e w' => e = .returned (.bool true) ∧ w = w' := by
  go_enter Tryz.func100, Tryz.ntmps100
  go_wp2
  go_ret
  exact ⟨rfl, rfl⟩
set_option maxRecDepth 100000 in
set_option maxHeartbeats 4000000 in
theorem isname_no (S : List UInt8) (w : World) (his : S ≠ [105, 115]) (hin : S ≠ [105, 110]) (hlarger : S ≠ [108, 97, 114, 103, 101, 114]) (hsmaller : S ≠ [115, 109, 97, 108, 108, 101, 114]) (hbefore : S ≠ [98, 101, 102, 111, 114, 101]) (hafter : S ≠ [97, 102, 116, 101, 114]) : Calls Tryz.prog 100 #[.string (ba S)] w fun e w' => e = .returned (.bool false) ∧ w = w' := by
  have gis0 : ([105, 115] : List UInt8) ≠ (ba S).toList := fun h => his (by rw [ba_toList] at h; exact h.symm)
  have gis1 : (⟨#[105, 115]⟩ : ByteArray).toList ≠ (ba S).toList := by rw [show (⟨#[105, 115]⟩ : ByteArray).toList = [105, 115] from ba_toList [105, 115]]; exact gis0
  have gis2 : ¬ (⟨#[105, 115]⟩ : ByteArray).toList = (ba S).toList := gis1
  have gis3 : ¬ (⟨#[105, 115]⟩ : ByteArray) = ba S := fun h => gis1 (by rw [h])
  have gis4 : (([105, 115] : List UInt8) == (ba S).toList) = false := beq_eq_false_iff_ne.2 gis0
  have gis5 : ((ba S).toList == ([105, 115] : List UInt8)) = false := beq_eq_false_iff_ne.2 (Ne.symm gis0)
  have gis6 : decide ((⟨#[105, 115]⟩ : ByteArray) = ba S) = false := decide_eq_false gis3
  have gis7 : decide (ba S = (⟨#[105, 115]⟩ : ByteArray)) = false := decide_eq_false (Ne.symm gis3)
  have gis8 : ¬ ba S = (⟨#[105, 115]⟩ : ByteArray) := Ne.symm gis3
  have gin0 : ([105, 110] : List UInt8) ≠ (ba S).toList := fun h => hin (by rw [ba_toList] at h; exact h.symm)
  have gin1 : (⟨#[105, 110]⟩ : ByteArray).toList ≠ (ba S).toList := by rw [show (⟨#[105, 110]⟩ : ByteArray).toList = [105, 110] from ba_toList [105, 110]]; exact gin0
  have gin2 : ¬ (⟨#[105, 110]⟩ : ByteArray).toList = (ba S).toList := gin1
  have gin3 : ¬ (⟨#[105, 110]⟩ : ByteArray) = ba S := fun h => gin1 (by rw [h])
  have gin4 : (([105, 110] : List UInt8) == (ba S).toList) = false := beq_eq_false_iff_ne.2 gin0
  have gin5 : ((ba S).toList == ([105, 110] : List UInt8)) = false := beq_eq_false_iff_ne.2 (Ne.symm gin0)
  have gin6 : decide ((⟨#[105, 110]⟩ : ByteArray) = ba S) = false := decide_eq_false gin3
  have gin7 : decide (ba S = (⟨#[105, 110]⟩ : ByteArray)) = false := decide_eq_false (Ne.symm gin3)
  have gin8 : ¬ ba S = (⟨#[105, 110]⟩ : ByteArray) := Ne.symm gin3
  have glarger0 : ([108, 97, 114, 103, 101, 114] : List UInt8) ≠ (ba S).toList := fun h => hlarger (by rw [ba_toList] at h; exact h.symm)
  have glarger1 : (⟨#[108, 97, 114, 103, 101, 114]⟩ : ByteArray).toList ≠ (ba S).toList := by rw [show (⟨#[108, 97, 114, 103, 101, 114]⟩ : ByteArray).toList = [108, 97, 114, 103, 101, 114] from ba_toList [108, 97, 114, 103, 101, 114]]; exact glarger0
  have glarger2 : ¬ (⟨#[108, 97, 114, 103, 101, 114]⟩ : ByteArray).toList = (ba S).toList := glarger1
  have glarger3 : ¬ (⟨#[108, 97, 114, 103, 101, 114]⟩ : ByteArray) = ba S := fun h => glarger1 (by rw [h])
  have glarger4 : (([108, 97, 114, 103, 101, 114] : List UInt8) == (ba S).toList) = false := beq_eq_false_iff_ne.2 glarger0
  have glarger5 : ((ba S).toList == ([108, 97, 114, 103, 101, 114] : List UInt8)) = false := beq_eq_false_iff_ne.2 (Ne.symm glarger0)
  have glarger6 : decide ((⟨#[108, 97, 114, 103, 101, 114]⟩ : ByteArray) = ba S) = false := decide_eq_false glarger3
  have glarger7 : decide (ba S = (⟨#[108, 97, 114, 103, 101, 114]⟩ : ByteArray)) = false := decide_eq_false (Ne.symm glarger3)
  have glarger8 : ¬ ba S = (⟨#[108, 97, 114, 103, 101, 114]⟩ : ByteArray) := Ne.symm glarger3
  have gsmaller0 : ([115, 109, 97, 108, 108, 101, 114] : List UInt8) ≠ (ba S).toList := fun h => hsmaller (by rw [ba_toList] at h; exact h.symm)
  have gsmaller1 : (⟨#[115, 109, 97, 108, 108, 101, 114]⟩ : ByteArray).toList ≠ (ba S).toList := by rw [show (⟨#[115, 109, 97, 108, 108, 101, 114]⟩ : ByteArray).toList = [115, 109, 97, 108, 108, 101, 114] from ba_toList [115, 109, 97, 108, 108, 101, 114]]; exact gsmaller0
  have gsmaller2 : ¬ (⟨#[115, 109, 97, 108, 108, 101, 114]⟩ : ByteArray).toList = (ba S).toList := gsmaller1
  have gsmaller3 : ¬ (⟨#[115, 109, 97, 108, 108, 101, 114]⟩ : ByteArray) = ba S := fun h => gsmaller1 (by rw [h])
  have gsmaller4 : (([115, 109, 97, 108, 108, 101, 114] : List UInt8) == (ba S).toList) = false := beq_eq_false_iff_ne.2 gsmaller0
  have gsmaller5 : ((ba S).toList == ([115, 109, 97, 108, 108, 101, 114] : List UInt8)) = false := beq_eq_false_iff_ne.2 (Ne.symm gsmaller0)
  have gsmaller6 : decide ((⟨#[115, 109, 97, 108, 108, 101, 114]⟩ : ByteArray) = ba S) = false := decide_eq_false gsmaller3
  have gsmaller7 : decide (ba S = (⟨#[115, 109, 97, 108, 108, 101, 114]⟩ : ByteArray)) = false := decide_eq_false (Ne.symm gsmaller3)
  have gsmaller8 : ¬ ba S = (⟨#[115, 109, 97, 108, 108, 101, 114]⟩ : ByteArray) := Ne.symm gsmaller3
  have gbefore0 : ([98, 101, 102, 111, 114, 101] : List UInt8) ≠ (ba S).toList := fun h => hbefore (by rw [ba_toList] at h; exact h.symm)
  have gbefore1 : (⟨#[98, 101, 102, 111, 114, 101]⟩ : ByteArray).toList ≠ (ba S).toList := by rw [show (⟨#[98, 101, 102, 111, 114, 101]⟩ : ByteArray).toList = [98, 101, 102, 111, 114, 101] from ba_toList [98, 101, 102, 111, 114, 101]]; exact gbefore0
  have gbefore2 : ¬ (⟨#[98, 101, 102, 111, 114, 101]⟩ : ByteArray).toList = (ba S).toList := gbefore1
  have gbefore3 : ¬ (⟨#[98, 101, 102, 111, 114, 101]⟩ : ByteArray) = ba S := fun h => gbefore1 (by rw [h])
  have gbefore4 : (([98, 101, 102, 111, 114, 101] : List UInt8) == (ba S).toList) = false := beq_eq_false_iff_ne.2 gbefore0
  have gbefore5 : ((ba S).toList == ([98, 101, 102, 111, 114, 101] : List UInt8)) = false := beq_eq_false_iff_ne.2 (Ne.symm gbefore0)
  have gbefore6 : decide ((⟨#[98, 101, 102, 111, 114, 101]⟩ : ByteArray) = ba S) = false := decide_eq_false gbefore3
  have gbefore7 : decide (ba S = (⟨#[98, 101, 102, 111, 114, 101]⟩ : ByteArray)) = false := decide_eq_false (Ne.symm gbefore3)
  have gbefore8 : ¬ ba S = (⟨#[98, 101, 102, 111, 114, 101]⟩ : ByteArray) := Ne.symm gbefore3
  have gafter0 : ([97, 102, 116, 101, 114] : List UInt8) ≠ (ba S).toList := fun h => hafter (by rw [ba_toList] at h; exact h.symm)
  have gafter1 : (⟨#[97, 102, 116, 101, 114]⟩ : ByteArray).toList ≠ (ba S).toList := by rw [show (⟨#[97, 102, 116, 101, 114]⟩ : ByteArray).toList = [97, 102, 116, 101, 114] from ba_toList [97, 102, 116, 101, 114]]; exact gafter0
  have gafter2 : ¬ (⟨#[97, 102, 116, 101, 114]⟩ : ByteArray).toList = (ba S).toList := gafter1
  have gafter3 : ¬ (⟨#[97, 102, 116, 101, 114]⟩ : ByteArray) = ba S := fun h => gafter1 (by rw [h])
  have gafter4 : (([97, 102, 116, 101, 114] : List UInt8) == (ba S).toList) = false := beq_eq_false_iff_ne.2 gafter0
  have gafter5 : ((ba S).toList == ([97, 102, 116, 101, 114] : List UInt8)) = false := beq_eq_false_iff_ne.2 (Ne.symm gafter0)
  have gafter6 : decide ((⟨#[97, 102, 116, 101, 114]⟩ : ByteArray) = ba S) = false := decide_eq_false gafter3
  have gafter7 : decide (ba S = (⟨#[97, 102, 116, 101, 114]⟩ : ByteArray)) = false := decide_eq_false (Ne.symm gafter3)
  have gafter8 : ¬ ba S = (⟨#[97, 102, 116, 101, 114]⟩ : ByteArray) := Ne.symm gafter3
  obtain ⟨SS, hSS⟩ : ∃ SS, ba S = SS := ⟨_, rfl⟩
  simp only [hSS] at gis0 gis1 gis2 gis3 gis4 gis5 gis6 gis7 gis8 gin0 gin1 gin2 gin3 gin4 gin5 gin6 gin7 gin8 glarger0 glarger1 glarger2 glarger3 glarger4 glarger5 glarger6 glarger7 glarger8 gsmaller0 gsmaller1 gsmaller2 gsmaller3 gsmaller4 gsmaller5 gsmaller6 gsmaller7 gsmaller8 gbefore0 gbefore1 gbefore2 gbefore3 gbefore4 gbefore5 gbefore6 gbefore7 gbefore8 gafter0 gafter1 gafter2 gafter3 gafter4 gafter5 gafter6 gafter7 gafter8
  rw [hSS]
  clear hSS his hin hlarger hsmaller hbefore hafter
  go_enter Tryz.func100, Tryz.ntmps100
  go_wp2
  go_ret
  exact ⟨rfl, rfl⟩
theorem rz_new (w : World) (o : Obj) : QzAt ((w.alloc o).alloc (.cells #[.int .i64 0, .int .i64 0, .string ⟨#[]⟩, .int .i64 0, .slice none 0 0] 25)) (w.heap.size + 1) := by
  have h := qzAt_new (w.alloc o)
  rw [World.size_alloc] at h
  exact h
theorem rb_below (w : World) (o1 o2 : Obj) : Below w.heap.size w ((w.alloc o1).alloc o2) := ((Below.refl _ _).alloc (Nat.le_refl _) _).alloc (by simp) _
set_option maxRecDepth 100000 in
set_option maxHeartbeats 4000000 in
theorem rmeans_quo (i j : Int) (t u : List UInt8) (q b : Bool) (w : World) (hl : t.length ≤ 1000000) :
    Calls Tryz.prog 76 #[.agg #[.int .i64 i, .int .i64 j, .int .i64 4, .string (ba t), .bool q, .string (ba u), .bool b]] w (LfPost w (textQ t 0)) := by
  have HTX := Lib.hid (fun W => rtext_any t 0 W hl (by omega))
  have HB0 := Lib.hid (rb_below w (.cells #[.int .i64 i, .int .i64 j, .int .i64 4, .string (ba t), .bool q, .string (ba u), .bool b] 51) (.cells #[.int .i64 0, .int .i64 0, .string ⟨#[]⟩, .int .i64 0, .slice none 0 0] 25))
  have HZ0 := Lib.hid (rz_new w (.cells #[.int .i64 i, .int .i64 j, .int .i64 4, .string (ba t), .bool q, .string (ba u), .bool b] 51))
  have Z0 := Lib.hid (show w.heap.size + 1 < ((w.alloc (.cells #[.int .i64 i, .int .i64 j, .int .i64 4, .string (ba t), .bool q, .string (ba u), .bool b] 51)).alloc (.cells #[.int .i64 0, .int .i64 0, .string ⟨#[]⟩, .int .i64 0, .slice none 0 0] 25)).heap.size by simp)
  obtain ⟨O, hO⟩ : ∃ O, textQ t 0 = O := ⟨_, rfl⟩
  have HOO := Lib.hid hO.symm
  rw [hO]
  clear hO
  go_enter Tryz.func76, Tryz.ntmps76
  go_wp2_with fail
  refine (HTX.out _).mono ?_
  rintro e w1 ⟨op, fld, y, m, rfl, hb1, hq, hk⟩
  have HB1 := Lib.hid (HB0.out.trans (hb1.mono HB0.out.size))
  have HZ1 := Lib.hid (HZ0.out.below hb1 Z0.out)
  have HQ := Lib.hid hq
  have HK := Lib.hid hk
  clear hb1 hq hk
  obtain ⟨r0, r1, r2, r3, r4, rf⟩ := HZ1.out.cells
  go_wp2
  refine bodyPost_ret (v := .tuple #[.agg #[.int .i64 op, .int .i64 fld, .string (ba y), .int .i64 m, .slice none 0 0], .bool (textQ t 0).isSome]) (by simp [results, Tryz.results76, go_sem, r0, r1, r2, r3, r4]) rfl ?_
  refine lf_end (fun q h => HQ.out q (HOO.out.symm.trans h)) (by rw [HOO.out]) rfl ?_ HK.out
  repeat (first | (with_reducible exact HB1.out) | refine Below.setCell ?_ (by simp) _)
set_option maxRecDepth 100000 in
set_option maxHeartbeats 4000000 in
theorem rmeans_field (i j : Int) (t u : List UInt8) (b : Bool) (f : Nat) (h58 : 58 ∈ t) (hf : fieldQ (nameQ t) = f + 1) (hu : u.length ≤ 1000000) (w : World) (hl : t.length ≤ 1000000) :
    Calls Tryz.prog 76 #[.agg #[.int .i64 i, .int .i64 j, .int .i64 5, .string (ba t), .bool true, .string (ba u), .bool b]] w (LfPost w (textQ u (f + 1))) := by
  have HB0 := Lib.hid (rb_below w (.cells #[.int .i64 i, .int .i64 j, .int .i64 5, .string (ba t), .bool true, .string (ba u), .bool b] 51) (.cells #[.int .i64 0, .int .i64 0, .string ⟨#[]⟩, .int .i64 0, .slice none 0 0] 25))
  have HZ0 := Lib.hid (rz_new w (.cells #[.int .i64 i, .int .i64 j, .int .i64 5, .string (ba t), .bool true, .string (ba u), .bool b] 51))
  have HR0 := Lib.hid (rbox_new w i j 5 t u true b (.cells #[.int .i64 0, .int .i64 0, .string ⟨#[]⟩, .int .i64 0, .slice none 0 0] 25))
  have Z0 := Lib.hid (show w.heap.size + 1 < ((w.alloc (.cells #[.int .i64 i, .int .i64 j, .int .i64 5, .string (ba t), .bool true, .string (ba u), .bool b] 51)).alloc (.cells #[.int .i64 0, .int .i64 0, .string ⟨#[]⟩, .int .i64 0, .slice none 0 0] 25)).heap.size by simp)
  have HPL := Lib.hid (fun x f (hx : x.length ≤ 1000000) (hf : f ≤ 100) W => rplain_any x f W hx hf)
  have HTX := Lib.hid (fun x f (hx : x.length ≤ 1000000) (hf : f ≤ 100) W => rtext_any x f W hx hf)
  have HLT := Lib.hid hl
  obtain ⟨O, hO⟩ : ∃ O, textQ u (f + 1) = O := ⟨_, rfl⟩
  have HO := Lib.hid hO.symm
  rw [hO]
  clear hO
  obtain ⟨n, hn⟩ : ∃ n, t.length = n := ⟨_, rfl⟩
  have HL := Lib.hid hn
  obtain ⟨s, hs⟩ : ∃ s, ba t = s := ⟨_, rfl⟩
  have HS := Lib.hid hs
  have HSZ := Lib.hid (show s.size = n by rw [← hs, ba_size, hn])
  have hsz : (s.size : Int) = n := by rw [HSZ.out]
  have HEX := Lib.hid (show ∀ i j, s.extract i j = ba ((t.take j).drop i) from fun i j => by rw [← hs]; exact ba_cut t i j)
  have HPS := Lib.hid (show ∀ W, Calls Tryz.prog 99 #[.string s, .int .i64 0] W (LfPost W (plainQ t 0)) from fun W => by rw [← hs]; exact HPL.out t 0 HLT.out (by omega) W)
  have HDR := Lib.hid (show ∀ k, s.extract k s.size = ba (t.drop k) from fun k => by rw [← hs]; exact ba_drop t k)
  rw [hs]
  rw [hn] at hl
  simp only [hs] at HB0 HZ0 Z0 HR0
  clear hs hn
  go_enter Tryz.func76, Tryz.ntmps76
  go_wp2
  go_loop [4] (fun i => ∃ k : Nat, k ≤ n ∧ i = .int .i64 (k : Int) ∧ Hid (NoCol t k)) (fun i => n - (intOf i).toNat)
  case atStart => exact ⟨0, Nat.zero_le _, rfl, Lib.hid (fun j _ hj => by omega)⟩
  case round =>
    obtain ⟨k, hk, rfl, HR⟩ := hrel
    by_cases hlt : k < n
    · have hk2 : (k : Int) < (n : Int) := by omega
      have hk0 : (0 : Int) ≤ (k : Int) := by omega
      have hks : k < s.size := by rw [HSZ.out]; exact hlt
      have hkl : k < t.length := by rw [HL.out]; exact hlt
      have hget : s[k] = t[k] := by
        have h := HS.out
        subst h
        rfl
      have HST := Lib.hid (fun (h : t[k] ≠ 58) => noCol_step HR.out (fun _ => h))
      have HCO := Lib.hid (fun (h : t[k] = 58) => col_at HR.out hkl h)
      obtain ⟨c, hc⟩ : ∃ c, t[k] = c := ⟨_, rfl⟩
      rw [hc] at hget HST HCO
      obtain ⟨x, hx⟩ : ∃ x : Int, (c.toNat : Int) = x := ⟨_, rfl⟩
      have hgi : ((s[k]).toNat : Int) = x := by rw [hget]; exact hx
      have HX := Lib.hid hx
      clear hc hkl hget hx
      by_cases e58 : x = 58
      · have HC := Lib.hid (HCO.out (UInt8.toNat_inj.1 (by have := HX.out; show _ = 58; omega)))
        have g58 : (x != 58) = false := by simpa using e58
        have gkn : ((k : Int) == (n : Int)) = false := by simp; omega
        have hk1 : (k : Int) + 1 ≤ (n : Int) := by omega
        have hk3 : (k : Int) ≤ (n : Int) := by omega
        have HNM := Lib.hid (show s.extract 0 k = ba (nameQ t) by rw [HEX.out, HC.out.2.1, List.drop_zero])
        have HRS := Lib.hid (show s.extract (k + 1) s.size = ba (restQ t) by rw [HDR.out, HC.out.2.2])
        have HNL := Lib.hid (show (nameQ t).length ≤ 1000000000 by rw [HC.out.2.1, List.length_take]; omega)
        have HRL := Lib.hid (show (restQ t).length ≤ 1000000 by rw [HC.out.2.2, List.length_drop, HL.out]; omega)
        have HFL := Lib.hid (fun W => rfield_any (nameQ t) W HNL.out)
        have HSM := Lib.hid (fun W => rqsmall_any (nameQ t) W HNL.out)
        unfold StrB at HSM
        obtain ⟨F, hF⟩ : ∃ F, fieldQ (nameQ t) = F := ⟨_, rfl⟩
        have HF5 := Lib.hid (show F ≤ 5 by rw [← hF]; exact (field_at (nameQ t)).2.2.2.2.2)
        have HFE := Lib.hid hF
        simp only [hF] at HFL
        clear hF e58
        obtain rfl : F = f + 1 := by rw [← HFE.out]; exact hf
        have g1 : decide ((0 : Int) < ((f + 1 : Nat) : Int)) = true := decide_eq_true (by omega)
        have g2 : (0 : Int) < ((f + 1 : Nat) : Int) := by omega
        go_wp2_with fail
        rw [HNM.out]
        refine (HFL.out _).mono ?_
        rintro e w1 ⟨rfl, hb1⟩
        have HB1 := Lib.hid (HB0.out.trans (hb1.mono HB0.out.size))
        have HZ1 := Lib.hid (HZ0.out.below hb1 Z0.out)
        have HR1 := Lib.hid (HR0.out.below hb1 (by simp; omega))
        have z1 : w.heap.size + 1 < w1.heap.size := by have := hb1.size; simp at this; omega
        clear hb1
        obtain ⟨b2, b3, b4, b5⟩ := HR1.out.cells
        rw [HS.out] at b3
        go_wp2_with fail
        rw [HNM.out]
        refine (HSM.out w1).mono ?_
        rintro e w2 ⟨rfl, hb2⟩
        have HB2 := Lib.hid (HB1.out.trans (hb2.mono HB1.out.size))
        have HZ2 := Lib.hid (HZ1.out.below hb2 z1)
        have HR2 := Lib.hid (HR1.out.below hb2 (by omega))
        have z2 : w.heap.size + 1 < w2.heap.size := by have := hb2.size; omega
        clear hb2
        obtain ⟨d2, d3, d4, d5⟩ := HR2.out.cells
        rw [HS.out] at d3
        go_wp2_with fail
        refine (HTX.out u (f + 1) hu (by have := HF5.out; omega) w2).mono ?_
        rintro e w3 ⟨op, fld, y, m, rfl, hb3, hq, hk⟩
        have HB3 := Lib.hid (HB2.out.trans (hb3.mono HB2.out.size))
        have HZ3 := Lib.hid (HZ2.out.below hb3 z2)
        have HQ := Lib.hid hq
        have HK := Lib.hid hk
        clear hb3 hq hk
        obtain ⟨r0, r1, r2, r3, r4, rf⟩ := HZ3.out.cells
        go_wp2
        refine bodyPost_ret (v := .tuple #[.agg #[.int .i64 op, .int .i64 fld, .string (ba y), .int .i64 m, .slice none 0 0], .bool (textQ u (f + 1)).isSome]) (by simp [results, Tryz.results76, go_sem, r0, r1, r2, r3, r4]) rfl ?_
        refine lf_end (fun q h => HQ.out q (HO.out.symm.trans h)) (by rw [HO.out]) rfl ?_ HK.out
        repeat (first | (with_reducible exact HB3.out) | refine Below.setCell ?_ (by simp) _)
      · have HG := Lib.hid (HST.out (fun h => e58 (by rw [← HX.out, h]; rfl)))
        have g58 : (x != 58) = true := by simpa using e58
        clear e58
        go_wp2
        go_round
        case rel => exact ⟨k + 1, by omega, by go_num, HG⟩
        case measure => simp [intOf] <;> omega
    · obtain rfl : k = n := by omega
      have hno := noCol_all (t := t) (by rw [HL.out]; exact HR.out)
      exact absurd h58 hno
set_option maxRecDepth 100000 in
set_option maxHeartbeats 4000000 in
theorem rmeans_bare (i j : Int) (t u : List UInt8) (b : Bool) (w : World) (hl : t.length ≤ 1000000) :
    Calls Tryz.prog 76 #[.agg #[.int .i64 i, .int .i64 j, .int .i64 5, .string (ba t), .bool false, .string (ba u), .bool b]] w (LfPost w (meansQ t)) := by
  have HB0 := Lib.hid (rb_below w (.cells #[.int .i64 i, .int .i64 j, .int .i64 5, .string (ba t), .bool false, .string (ba u), .bool b] 51) (.cells #[.int .i64 0, .int .i64 0, .string ⟨#[]⟩, .int .i64 0, .slice none 0 0] 25))
  have HZ0 := Lib.hid (rz_new w (.cells #[.int .i64 i, .int .i64 j, .int .i64 5, .string (ba t), .bool false, .string (ba u), .bool b] 51))
  have HR0 := Lib.hid (rbox_new w i j 5 t u false b (.cells #[.int .i64 0, .int .i64 0, .string ⟨#[]⟩, .int .i64 0, .slice none 0 0] 25))
  have Z0 := Lib.hid (show w.heap.size + 1 < ((w.alloc (.cells #[.int .i64 i, .int .i64 j, .int .i64 5, .string (ba t), .bool false, .string (ba u), .bool b] 51)).alloc (.cells #[.int .i64 0, .int .i64 0, .string ⟨#[]⟩, .int .i64 0, .slice none 0 0] 25)).heap.size by simp)
  have HPL := Lib.hid (fun x f (hx : x.length ≤ 1000000) (hf : f ≤ 100) W => rplain_any x f W hx hf)
  have HTX := Lib.hid (fun x f (hx : x.length ≤ 1000000) (hf : f ≤ 100) W => rtext_any x f W hx hf)
  have HLT := Lib.hid hl
  obtain ⟨O, hO⟩ : ∃ O, meansQ t = O := ⟨_, rfl⟩
  have HO := Lib.hid hO.symm
  rw [hO]
  clear hO
  obtain ⟨n, hn⟩ : ∃ n, t.length = n := ⟨_, rfl⟩
  have HL := Lib.hid hn
  obtain ⟨s, hs⟩ : ∃ s, ba t = s := ⟨_, rfl⟩
  have HS := Lib.hid hs
  have HSZ := Lib.hid (show s.size = n by rw [← hs, ba_size, hn])
  have hsz : (s.size : Int) = n := by rw [HSZ.out]
  have HEX := Lib.hid (show ∀ i j, s.extract i j = ba ((t.take j).drop i) from fun i j => by rw [← hs]; exact ba_cut t i j)
  have HPS := Lib.hid (show ∀ W, Calls Tryz.prog 99 #[.string s, .int .i64 0] W (LfPost W (plainQ t 0)) from fun W => by rw [← hs]; exact HPL.out t 0 HLT.out (by omega) W)
  have HDR := Lib.hid (show ∀ k, s.extract k s.size = ba (t.drop k) from fun k => by rw [← hs]; exact ba_drop t k)
  rw [hs]
  rw [hn] at hl
  simp only [hs] at HB0 HZ0 Z0 HR0
  clear hs hn
  go_enter Tryz.func76, Tryz.ntmps76
  go_wp2
  go_loop [4] (fun i => ∃ k : Nat, k ≤ n ∧ i = .int .i64 (k : Int) ∧ Hid (NoCol t k)) (fun i => n - (intOf i).toNat)
  case atStart => exact ⟨0, Nat.zero_le _, rfl, Lib.hid (fun j _ hj => by omega)⟩
  case round =>
    obtain ⟨k, hk, rfl, HR⟩ := hrel
    by_cases hlt : k < n
    · have hk2 : (k : Int) < (n : Int) := by omega
      have hk0 : (0 : Int) ≤ (k : Int) := by omega
      have hks : k < s.size := by rw [HSZ.out]; exact hlt
      have hkl : k < t.length := by rw [HL.out]; exact hlt
      have hget : s[k] = t[k] := by
        have h := HS.out
        subst h
        rfl
      have HST := Lib.hid (fun (h : t[k] ≠ 58) => noCol_step HR.out (fun _ => h))
      have HCO := Lib.hid (fun (h : t[k] = 58) => col_at HR.out hkl h)
      obtain ⟨c, hc⟩ : ∃ c, t[k] = c := ⟨_, rfl⟩
      rw [hc] at hget HST HCO
      obtain ⟨x, hx⟩ : ∃ x : Int, (c.toNat : Int) = x := ⟨_, rfl⟩
      have hgi : ((s[k]).toNat : Int) = x := by rw [hget]; exact hx
      have HX := Lib.hid hx
      clear hc hkl hget hx
      by_cases e58 : x = 58
      · have HC := Lib.hid (HCO.out (UInt8.toNat_inj.1 (by have := HX.out; show _ = 58; omega)))
        have g58 : (x != 58) = false := by simpa using e58
        have gkn : ((k : Int) == (n : Int)) = false := by simp; omega
        have hk1 : (k : Int) + 1 ≤ (n : Int) := by omega
        have hk3 : (k : Int) ≤ (n : Int) := by omega
        have HNM := Lib.hid (show s.extract 0 k = ba (nameQ t) by rw [HEX.out, HC.out.2.1, List.drop_zero])
        have HRS := Lib.hid (show s.extract (k + 1) s.size = ba (restQ t) by rw [HDR.out, HC.out.2.2])
        have HNL := Lib.hid (show (nameQ t).length ≤ 1000000000 by rw [HC.out.2.1, List.length_take]; omega)
        have HRL := Lib.hid (show (restQ t).length ≤ 1000000 by rw [HC.out.2.2, List.length_drop, HL.out]; omega)
        have HFL := Lib.hid (fun W => rfield_any (nameQ t) W HNL.out)
        have HSM := Lib.hid (fun W => rqsmall_any (nameQ t) W HNL.out)
        unfold StrB at HSM
        obtain ⟨F, hF⟩ : ∃ F, fieldQ (nameQ t) = F := ⟨_, rfl⟩
        have HF5 := Lib.hid (show F ≤ 5 by rw [← hF]; exact (field_at (nameQ t)).2.2.2.2.2)
        have HFE := Lib.hid hF
        simp only [hF] at HFL
        clear hF e58
        by_cases hF0 : F = 0
        · subst hF0
          have HSV := Lib.hid (show (smallP (nameQ t)).length ≤ 1000000000 by rw [smallP_len]; exact HNL.out)
          obtain ⟨S, hS⟩ : ∃ S, smallP (nameQ t) = S := ⟨_, rfl⟩
          have HSE := Lib.hid hS
          simp only [hS] at HSM
          clear hS
          by_cases hSis : S = [105, 115]
          · have HGO := Lib.hid (HO.out.trans (meansQ_named HC.out.1 HFE.out (by rw [HSE.out, hSis]; exact named_is (restQ t))))
            obtain ⟨V, hV⟩ : ∃ V : Option Qry, (if flagQ (smallP (restQ t)) then some (.mk 5 0 (smallP (restQ t)) 0 []) else none) = V := ⟨_, rfl⟩
            have HRN := Lib.hid (fun W => rnamed_is (restQ t) W HRL.out)
            simp only [hV] at HRN HGO
            clear hV
            have HSM2 := Lib.hid (show ∀ W, Calls Tryz.prog 51 #[.string (ba (nameQ t))] W fun e w' => e = .returned (.string ⟨#[105, 115]⟩) ∧ Below W.heap.size W w' from fun W => by rw [show (⟨#[105, 115]⟩ : ByteArray) = ba S from by rw [hSis]; rfl]; exact HSM.out W)
            clear hSis
            go_wp2_with fail
            rw [HNM.out]
            refine (HFL.out _).mono ?_
            rintro e w1 ⟨rfl, hb1⟩
            have HB1 := Lib.hid (HB0.out.trans (hb1.mono HB0.out.size))
            have HZ1 := Lib.hid (HZ0.out.below hb1 Z0.out)
            have HR1 := Lib.hid (HR0.out.below hb1 (by simp; omega))
            have z1 : w.heap.size + 1 < w1.heap.size := by have := hb1.size; simp at this; omega
            clear hb1
            obtain ⟨b2, b3, b4, b5⟩ := HR1.out.cells
            rw [HS.out] at b3
            go_wp2_with fail
            rw [HNM.out]
            refine (HSM2.out w1).mono ?_
            rintro e w2 ⟨rfl, hb2⟩
            have HB2 := Lib.hid (HB1.out.trans (hb2.mono HB1.out.size))
            have HZ2 := Lib.hid (HZ1.out.below hb2 z1)
            have HR2 := Lib.hid (HR1.out.below hb2 (by omega))
            have z2 : w.heap.size + 1 < w2.heap.size := by have := hb2.size; omega
            clear hb2
            obtain ⟨d2, d3, d4, d5⟩ := HR2.out.cells
            rw [HS.out] at d3
            go_wp2_with fail
            refine (isname_is w2).mono ?_
            rintro e w' ⟨rfl, rfl⟩
            go_wp2_with fail
            rw [HRS.out]
            refine (HRN.out w2).mono ?_
            rintro e w3 ⟨op, fld, y, m, rfl, hb3, hq, hk⟩
            have HB3 := Lib.hid (HB2.out.trans (hb3.mono HB2.out.size))
            have HZ3 := Lib.hid (HZ2.out.below hb3 z2)
            have HQ := Lib.hid hq
            have HK := Lib.hid hk
            clear hb3 hq hk
            obtain ⟨r0, r1, r2, r3, r4, rf⟩ := HZ3.out.cells
            go_wp2
            refine bodyPost_ret (v := .tuple #[.agg #[.int .i64 op, .int .i64 fld, .string (ba y), .int .i64 m, .slice none 0 0], .bool V.isSome]) (by simp [results, Tryz.results76, go_sem, r0, r1, r2, r3, r4]) rfl ?_
            refine lf_end (fun q h => HQ.out q (HGO.out.symm.trans h)) (by rw [HGO.out]) rfl ?_ HK.out
            repeat (first | (with_reducible exact HB3.out) | refine Below.setCell ?_ (by simp) _)
          · skip
            by_cases hSin : S = [105, 110]
            · have HGO := Lib.hid (HO.out.trans (meansQ_named HC.out.1 HFE.out (by rw [HSE.out, hSin]; exact named_in (restQ t))))
              obtain ⟨V, hV⟩ : ∃ V : Option Qry, ((decP (restQ t) 1 1099511627776).map fun n => .mk 6 0 [] n []) = V := ⟨_, rfl⟩
              have HRN := Lib.hid (fun W => rnamed_in (restQ t) W HRL.out)
              simp only [hV] at HRN HGO
              clear hV
              have HSM2 := Lib.hid (show ∀ W, Calls Tryz.prog 51 #[.string (ba (nameQ t))] W fun e w' => e = .returned (.string ⟨#[105, 110]⟩) ∧ Below W.heap.size W w' from fun W => by rw [show (⟨#[105, 110]⟩ : ByteArray) = ba S from by rw [hSin]; rfl]; exact HSM.out W)
              clear hSin
              go_wp2_with fail
              rw [HNM.out]
              refine (HFL.out _).mono ?_
              rintro e w1 ⟨rfl, hb1⟩
              have HB1 := Lib.hid (HB0.out.trans (hb1.mono HB0.out.size))
              have HZ1 := Lib.hid (HZ0.out.below hb1 Z0.out)
              have HR1 := Lib.hid (HR0.out.below hb1 (by simp; omega))
              have z1 : w.heap.size + 1 < w1.heap.size := by have := hb1.size; simp at this; omega
              clear hb1
              obtain ⟨b2, b3, b4, b5⟩ := HR1.out.cells
              rw [HS.out] at b3
              go_wp2_with fail
              rw [HNM.out]
              refine (HSM2.out w1).mono ?_
              rintro e w2 ⟨rfl, hb2⟩
              have HB2 := Lib.hid (HB1.out.trans (hb2.mono HB1.out.size))
              have HZ2 := Lib.hid (HZ1.out.below hb2 z1)
              have HR2 := Lib.hid (HR1.out.below hb2 (by omega))
              have z2 : w.heap.size + 1 < w2.heap.size := by have := hb2.size; omega
              clear hb2
              obtain ⟨d2, d3, d4, d5⟩ := HR2.out.cells
              rw [HS.out] at d3
              go_wp2_with fail
              refine (isname_in w2).mono ?_
              rintro e w' ⟨rfl, rfl⟩
              go_wp2_with fail
              rw [HRS.out]
              refine (HRN.out w2).mono ?_
              rintro e w3 ⟨op, fld, y, m, rfl, hb3, hq, hk⟩
              have HB3 := Lib.hid (HB2.out.trans (hb3.mono HB2.out.size))
              have HZ3 := Lib.hid (HZ2.out.below hb3 z2)
              have HQ := Lib.hid hq
              have HK := Lib.hid hk
              clear hb3 hq hk
              obtain ⟨r0, r1, r2, r3, r4, rf⟩ := HZ3.out.cells
              go_wp2
              refine bodyPost_ret (v := .tuple #[.agg #[.int .i64 op, .int .i64 fld, .string (ba y), .int .i64 m, .slice none 0 0], .bool V.isSome]) (by simp [results, Tryz.results76, go_sem, r0, r1, r2, r3, r4]) rfl ?_
              refine lf_end (fun q h => HQ.out q (HGO.out.symm.trans h)) (by rw [HGO.out]) rfl ?_ HK.out
              repeat (first | (with_reducible exact HB3.out) | refine Below.setCell ?_ (by simp) _)
            · skip
              by_cases hSlarger : S = [108, 97, 114, 103, 101, 114]
              · have HGO := Lib.hid (HO.out.trans (meansQ_named HC.out.1 HFE.out (by rw [HSE.out, hSlarger]; exact named_larger (restQ t))))
                obtain ⟨V, hV⟩ : ∃ V : Option Qry, ((sizeQ (restQ t)).map fun n => .mk 9 0 [] n []) = V := ⟨_, rfl⟩
                have HRN := Lib.hid (fun W => rnamed_larger (restQ t) W HRL.out)
                simp only [hV] at HRN HGO
                clear hV
                have HSM2 := Lib.hid (show ∀ W, Calls Tryz.prog 51 #[.string (ba (nameQ t))] W fun e w' => e = .returned (.string ⟨#[108, 97, 114, 103, 101, 114]⟩) ∧ Below W.heap.size W w' from fun W => by rw [show (⟨#[108, 97, 114, 103, 101, 114]⟩ : ByteArray) = ba S from by rw [hSlarger]; rfl]; exact HSM.out W)
                clear hSlarger
                go_wp2_with fail
                rw [HNM.out]
                refine (HFL.out _).mono ?_
                rintro e w1 ⟨rfl, hb1⟩
                have HB1 := Lib.hid (HB0.out.trans (hb1.mono HB0.out.size))
                have HZ1 := Lib.hid (HZ0.out.below hb1 Z0.out)
                have HR1 := Lib.hid (HR0.out.below hb1 (by simp; omega))
                have z1 : w.heap.size + 1 < w1.heap.size := by have := hb1.size; simp at this; omega
                clear hb1
                obtain ⟨b2, b3, b4, b5⟩ := HR1.out.cells
                rw [HS.out] at b3
                go_wp2_with fail
                rw [HNM.out]
                refine (HSM2.out w1).mono ?_
                rintro e w2 ⟨rfl, hb2⟩
                have HB2 := Lib.hid (HB1.out.trans (hb2.mono HB1.out.size))
                have HZ2 := Lib.hid (HZ1.out.below hb2 z1)
                have HR2 := Lib.hid (HR1.out.below hb2 (by omega))
                have z2 : w.heap.size + 1 < w2.heap.size := by have := hb2.size; omega
                clear hb2
                obtain ⟨d2, d3, d4, d5⟩ := HR2.out.cells
                rw [HS.out] at d3
                go_wp2_with fail
                refine (isname_larger w2).mono ?_
                rintro e w' ⟨rfl, rfl⟩
                go_wp2_with fail
                rw [HRS.out]
                refine (HRN.out w2).mono ?_
                rintro e w3 ⟨op, fld, y, m, rfl, hb3, hq, hk⟩
                have HB3 := Lib.hid (HB2.out.trans (hb3.mono HB2.out.size))
                have HZ3 := Lib.hid (HZ2.out.below hb3 z2)
                have HQ := Lib.hid hq
                have HK := Lib.hid hk
                clear hb3 hq hk
                obtain ⟨r0, r1, r2, r3, r4, rf⟩ := HZ3.out.cells
                go_wp2
                refine bodyPost_ret (v := .tuple #[.agg #[.int .i64 op, .int .i64 fld, .string (ba y), .int .i64 m, .slice none 0 0], .bool V.isSome]) (by simp [results, Tryz.results76, go_sem, r0, r1, r2, r3, r4]) rfl ?_
                refine lf_end (fun q h => HQ.out q (HGO.out.symm.trans h)) (by rw [HGO.out]) rfl ?_ HK.out
                repeat (first | (with_reducible exact HB3.out) | refine Below.setCell ?_ (by simp) _)
              · skip
                by_cases hSsmaller : S = [115, 109, 97, 108, 108, 101, 114]
                · have HGO := Lib.hid (HO.out.trans (meansQ_named HC.out.1 HFE.out (by rw [HSE.out, hSsmaller]; exact named_smaller (restQ t))))
                  obtain ⟨V, hV⟩ : ∃ V : Option Qry, ((sizeQ (restQ t)).map fun n => .mk 10 0 [] n []) = V := ⟨_, rfl⟩
                  have HRN := Lib.hid (fun W => rnamed_smaller (restQ t) W HRL.out)
                  simp only [hV] at HRN HGO
                  clear hV
                  have HSM2 := Lib.hid (show ∀ W, Calls Tryz.prog 51 #[.string (ba (nameQ t))] W fun e w' => e = .returned (.string ⟨#[115, 109, 97, 108, 108, 101, 114]⟩) ∧ Below W.heap.size W w' from fun W => by rw [show (⟨#[115, 109, 97, 108, 108, 101, 114]⟩ : ByteArray) = ba S from by rw [hSsmaller]; rfl]; exact HSM.out W)
                  clear hSsmaller
                  go_wp2_with fail
                  rw [HNM.out]
                  refine (HFL.out _).mono ?_
                  rintro e w1 ⟨rfl, hb1⟩
                  have HB1 := Lib.hid (HB0.out.trans (hb1.mono HB0.out.size))
                  have HZ1 := Lib.hid (HZ0.out.below hb1 Z0.out)
                  have HR1 := Lib.hid (HR0.out.below hb1 (by simp; omega))
                  have z1 : w.heap.size + 1 < w1.heap.size := by have := hb1.size; simp at this; omega
                  clear hb1
                  obtain ⟨b2, b3, b4, b5⟩ := HR1.out.cells
                  rw [HS.out] at b3
                  go_wp2_with fail
                  rw [HNM.out]
                  refine (HSM2.out w1).mono ?_
                  rintro e w2 ⟨rfl, hb2⟩
                  have HB2 := Lib.hid (HB1.out.trans (hb2.mono HB1.out.size))
                  have HZ2 := Lib.hid (HZ1.out.below hb2 z1)
                  have HR2 := Lib.hid (HR1.out.below hb2 (by omega))
                  have z2 : w.heap.size + 1 < w2.heap.size := by have := hb2.size; omega
                  clear hb2
                  obtain ⟨d2, d3, d4, d5⟩ := HR2.out.cells
                  rw [HS.out] at d3
                  go_wp2_with fail
                  refine (isname_smaller w2).mono ?_
                  rintro e w' ⟨rfl, rfl⟩
                  go_wp2_with fail
                  rw [HRS.out]
                  refine (HRN.out w2).mono ?_
                  rintro e w3 ⟨op, fld, y, m, rfl, hb3, hq, hk⟩
                  have HB3 := Lib.hid (HB2.out.trans (hb3.mono HB2.out.size))
                  have HZ3 := Lib.hid (HZ2.out.below hb3 z2)
                  have HQ := Lib.hid hq
                  have HK := Lib.hid hk
                  clear hb3 hq hk
                  obtain ⟨r0, r1, r2, r3, r4, rf⟩ := HZ3.out.cells
                  go_wp2
                  refine bodyPost_ret (v := .tuple #[.agg #[.int .i64 op, .int .i64 fld, .string (ba y), .int .i64 m, .slice none 0 0], .bool V.isSome]) (by simp [results, Tryz.results76, go_sem, r0, r1, r2, r3, r4]) rfl ?_
                  refine lf_end (fun q h => HQ.out q (HGO.out.symm.trans h)) (by rw [HGO.out]) rfl ?_ HK.out
                  repeat (first | (with_reducible exact HB3.out) | refine Below.setCell ?_ (by simp) _)
                · skip
                  by_cases hSbefore : S = [98, 101, 102, 111, 114, 101]
                  · have HGO := Lib.hid (HO.out.trans (meansQ_named HC.out.1 HFE.out (by rw [HSE.out, hSbefore]; exact named_before (restQ t))))
                    obtain ⟨V, hV⟩ : ∃ V : Option Qry, ((momentQ (restQ t)).map fun n => .mk 7 0 [] n []) = V := ⟨_, rfl⟩
                    have HRN := Lib.hid (fun W => rnamed_before (restQ t) W HRL.out)
                    simp only [hV] at HRN HGO
                    clear hV
                    have HSM2 := Lib.hid (show ∀ W, Calls Tryz.prog 51 #[.string (ba (nameQ t))] W fun e w' => e = .returned (.string ⟨#[98, 101, 102, 111, 114, 101]⟩) ∧ Below W.heap.size W w' from fun W => by rw [show (⟨#[98, 101, 102, 111, 114, 101]⟩ : ByteArray) = ba S from by rw [hSbefore]; rfl]; exact HSM.out W)
                    clear hSbefore
                    go_wp2_with fail
                    rw [HNM.out]
                    refine (HFL.out _).mono ?_
                    rintro e w1 ⟨rfl, hb1⟩
                    have HB1 := Lib.hid (HB0.out.trans (hb1.mono HB0.out.size))
                    have HZ1 := Lib.hid (HZ0.out.below hb1 Z0.out)
                    have HR1 := Lib.hid (HR0.out.below hb1 (by simp; omega))
                    have z1 : w.heap.size + 1 < w1.heap.size := by have := hb1.size; simp at this; omega
                    clear hb1
                    obtain ⟨b2, b3, b4, b5⟩ := HR1.out.cells
                    rw [HS.out] at b3
                    go_wp2_with fail
                    rw [HNM.out]
                    refine (HSM2.out w1).mono ?_
                    rintro e w2 ⟨rfl, hb2⟩
                    have HB2 := Lib.hid (HB1.out.trans (hb2.mono HB1.out.size))
                    have HZ2 := Lib.hid (HZ1.out.below hb2 z1)
                    have HR2 := Lib.hid (HR1.out.below hb2 (by omega))
                    have z2 : w.heap.size + 1 < w2.heap.size := by have := hb2.size; omega
                    clear hb2
                    obtain ⟨d2, d3, d4, d5⟩ := HR2.out.cells
                    rw [HS.out] at d3
                    go_wp2_with fail
                    refine (isname_before w2).mono ?_
                    rintro e w' ⟨rfl, rfl⟩
                    go_wp2_with fail
                    rw [HRS.out]
                    refine (HRN.out w2).mono ?_
                    rintro e w3 ⟨op, fld, y, m, rfl, hb3, hq, hk⟩
                    have HB3 := Lib.hid (HB2.out.trans (hb3.mono HB2.out.size))
                    have HZ3 := Lib.hid (HZ2.out.below hb3 z2)
                    have HQ := Lib.hid hq
                    have HK := Lib.hid hk
                    clear hb3 hq hk
                    obtain ⟨r0, r1, r2, r3, r4, rf⟩ := HZ3.out.cells
                    go_wp2
                    refine bodyPost_ret (v := .tuple #[.agg #[.int .i64 op, .int .i64 fld, .string (ba y), .int .i64 m, .slice none 0 0], .bool V.isSome]) (by simp [results, Tryz.results76, go_sem, r0, r1, r2, r3, r4]) rfl ?_
                    refine lf_end (fun q h => HQ.out q (HGO.out.symm.trans h)) (by rw [HGO.out]) rfl ?_ HK.out
                    repeat (first | (with_reducible exact HB3.out) | refine Below.setCell ?_ (by simp) _)
                  · skip
                    by_cases hSafter : S = [97, 102, 116, 101, 114]
                    · have HGO := Lib.hid (HO.out.trans (meansQ_named HC.out.1 HFE.out (by rw [HSE.out, hSafter]; exact named_after (restQ t))))
                      obtain ⟨V, hV⟩ : ∃ V : Option Qry, ((momentQ (restQ t)).map fun n => .mk 8 0 [] n []) = V := ⟨_, rfl⟩
                      have HRN := Lib.hid (fun W => rnamed_after (restQ t) W HRL.out)
                      simp only [hV] at HRN HGO
                      clear hV
                      have HSM2 := Lib.hid (show ∀ W, Calls Tryz.prog 51 #[.string (ba (nameQ t))] W fun e w' => e = .returned (.string ⟨#[97, 102, 116, 101, 114]⟩) ∧ Below W.heap.size W w' from fun W => by rw [show (⟨#[97, 102, 116, 101, 114]⟩ : ByteArray) = ba S from by rw [hSafter]; rfl]; exact HSM.out W)
                      clear hSafter
                      go_wp2_with fail
                      rw [HNM.out]
                      refine (HFL.out _).mono ?_
                      rintro e w1 ⟨rfl, hb1⟩
                      have HB1 := Lib.hid (HB0.out.trans (hb1.mono HB0.out.size))
                      have HZ1 := Lib.hid (HZ0.out.below hb1 Z0.out)
                      have HR1 := Lib.hid (HR0.out.below hb1 (by simp; omega))
                      have z1 : w.heap.size + 1 < w1.heap.size := by have := hb1.size; simp at this; omega
                      clear hb1
                      obtain ⟨b2, b3, b4, b5⟩ := HR1.out.cells
                      rw [HS.out] at b3
                      go_wp2_with fail
                      rw [HNM.out]
                      refine (HSM2.out w1).mono ?_
                      rintro e w2 ⟨rfl, hb2⟩
                      have HB2 := Lib.hid (HB1.out.trans (hb2.mono HB1.out.size))
                      have HZ2 := Lib.hid (HZ1.out.below hb2 z1)
                      have HR2 := Lib.hid (HR1.out.below hb2 (by omega))
                      have z2 : w.heap.size + 1 < w2.heap.size := by have := hb2.size; omega
                      clear hb2
                      obtain ⟨d2, d3, d4, d5⟩ := HR2.out.cells
                      rw [HS.out] at d3
                      go_wp2_with fail
                      refine (isname_after w2).mono ?_
                      rintro e w' ⟨rfl, rfl⟩
                      go_wp2_with fail
                      rw [HRS.out]
                      refine (HRN.out w2).mono ?_
                      rintro e w3 ⟨op, fld, y, m, rfl, hb3, hq, hk⟩
                      have HB3 := Lib.hid (HB2.out.trans (hb3.mono HB2.out.size))
                      have HZ3 := Lib.hid (HZ2.out.below hb3 z2)
                      have HQ := Lib.hid hq
                      have HK := Lib.hid hk
                      clear hb3 hq hk
                      obtain ⟨r0, r1, r2, r3, r4, rf⟩ := HZ3.out.cells
                      go_wp2
                      refine bodyPost_ret (v := .tuple #[.agg #[.int .i64 op, .int .i64 fld, .string (ba y), .int .i64 m, .slice none 0 0], .bool V.isSome]) (by simp [results, Tryz.results76, go_sem, r0, r1, r2, r3, r4]) rfl ?_
                      refine lf_end (fun q h => HQ.out q (HGO.out.symm.trans h)) (by rw [HGO.out]) rfl ?_ HK.out
                      repeat (first | (with_reducible exact HB3.out) | refine Below.setCell ?_ (by simp) _)
                    · skip
                      have HGO := Lib.hid (HO.out.trans (meansQ_other HC.out.1 HFE.out (by rw [HSE.out]; exact named_no (restQ t) hSis hSin hSlarger hSsmaller hSbefore hSafter)))
                      have HIN := Lib.hid (fun W => isname_no S W hSis hSin hSlarger hSsmaller hSbefore hSafter)
                      clear hSis hSin hSlarger hSsmaller hSbefore hSafter
                      go_wp2_with fail
                      rw [HNM.out]
                      refine (HFL.out _).mono ?_
                      rintro e w1 ⟨rfl, hb1⟩
                      have HB1 := Lib.hid (HB0.out.trans (hb1.mono HB0.out.size))
                      have HZ1 := Lib.hid (HZ0.out.below hb1 Z0.out)
                      have HR1 := Lib.hid (HR0.out.below hb1 (by simp; omega))
                      have z1 : w.heap.size + 1 < w1.heap.size := by have := hb1.size; simp at this; omega
                      clear hb1
                      obtain ⟨b2, b3, b4, b5⟩ := HR1.out.cells
                      rw [HS.out] at b3
                      go_wp2_with fail
                      rw [HNM.out]
                      refine (HSM.out w1).mono ?_
                      rintro e w2 ⟨rfl, hb2⟩
                      have HB2 := Lib.hid (HB1.out.trans (hb2.mono HB1.out.size))
                      have HZ2 := Lib.hid (HZ1.out.below hb2 z1)
                      have HR2 := Lib.hid (HR1.out.below hb2 (by omega))
                      have z2 : w.heap.size + 1 < w2.heap.size := by have := hb2.size; omega
                      clear hb2
                      obtain ⟨d2, d3, d4, d5⟩ := HR2.out.cells
                      rw [HS.out] at d3
                      go_wp2_with fail
                      refine (HIN.out w2).mono ?_
                      rintro e w' ⟨rfl, rfl⟩
                      go_wp2_with fail
                      refine (HPS.out w2).mono ?_
                      rintro e w3 ⟨op, fld, y, m, rfl, hb3, hq, hk⟩
                      have HB3 := Lib.hid (HB2.out.trans (hb3.mono HB2.out.size))
                      have HZ3 := Lib.hid (HZ2.out.below hb3 z2)
                      have HQ := Lib.hid hq
                      have HK := Lib.hid hk
                      clear hb3 hq hk
                      obtain ⟨r0, r1, r2, r3, r4, rf⟩ := HZ3.out.cells
                      go_wp2
                      refine bodyPost_ret (v := .tuple #[.agg #[.int .i64 op, .int .i64 fld, .string (ba y), .int .i64 m, .slice none 0 0], .bool (plainQ t 0).isSome]) (by simp [results, Tryz.results76, go_sem, r0, r1, r2, r3, r4]) rfl ?_
                      refine lf_end (fun q h => HQ.out q (HGO.out.symm.trans h)) (by rw [HGO.out]) rfl ?_ HK.out
                      repeat (first | (with_reducible exact HB3.out) | refine Below.setCell ?_ (by simp) _)
        · have hF1 : 0 < F := by omega
          have HGO := Lib.hid (HO.out.trans (meansQ_field HC.out.1 (by rw [HFE.out]; exact hF1)))
          have HGF := Lib.hid (show O = plainQ (restQ t) F by rw [HGO.out, HFE.out])
          have g1 : decide ((0 : Int) < (F : Int)) = true := decide_eq_true (by omega)
          have g2 : (0 : Int) < (F : Int) := by omega
          go_wp2_with fail
          rw [HNM.out]
          refine (HFL.out _).mono ?_
          rintro e w1 ⟨rfl, hb1⟩
          have HB1 := Lib.hid (HB0.out.trans (hb1.mono HB0.out.size))
          have HZ1 := Lib.hid (HZ0.out.below hb1 Z0.out)
          have HR1 := Lib.hid (HR0.out.below hb1 (by simp; omega))
          have z1 : w.heap.size + 1 < w1.heap.size := by have := hb1.size; simp at this; omega
          clear hb1
          obtain ⟨b2, b3, b4, b5⟩ := HR1.out.cells
          rw [HS.out] at b3
          go_wp2_with fail
          rw [HNM.out]
          refine (HSM.out w1).mono ?_
          rintro e w2 ⟨rfl, hb2⟩
          have HB2 := Lib.hid (HB1.out.trans (hb2.mono HB1.out.size))
          have HZ2 := Lib.hid (HZ1.out.below hb2 z1)
          have HR2 := Lib.hid (HR1.out.below hb2 (by omega))
          have z2 : w.heap.size + 1 < w2.heap.size := by have := hb2.size; omega
          clear hb2
          obtain ⟨d2, d3, d4, d5⟩ := HR2.out.cells
          rw [HS.out] at d3
          go_wp2_with fail
          rw [HRS.out]
          refine (HPL.out (restQ t) F HRL.out (by have := HF5.out; omega) w2).mono ?_
          rintro e w3 ⟨op, fld, y, m, rfl, hb3, hq, hk⟩
          have HB3 := Lib.hid (HB2.out.trans (hb3.mono HB2.out.size))
          have HZ3 := Lib.hid (HZ2.out.below hb3 z2)
          have HQ := Lib.hid hq
          have HK := Lib.hid hk
          clear hb3 hq hk
          obtain ⟨r0, r1, r2, r3, r4, rf⟩ := HZ3.out.cells
          go_wp2
          refine bodyPost_ret (v := .tuple #[.agg #[.int .i64 op, .int .i64 fld, .string (ba y), .int .i64 m, .slice none 0 0], .bool (plainQ (restQ t) F).isSome]) (by simp [results, Tryz.results76, go_sem, r0, r1, r2, r3, r4]) rfl ?_
          refine lf_end (fun q h => HQ.out q (HGF.out.symm.trans h)) (by rw [HGF.out]) rfl ?_ HK.out
          repeat (first | (with_reducible exact HB3.out) | refine Below.setCell ?_ (by simp) _)
      · have HG := Lib.hid (HST.out (fun h => e58 (by rw [← HX.out, h]; rfl)))
        have g58 : (x != 58) = true := by simpa using e58
        clear e58
        go_wp2
        go_round
        case rel => exact ⟨k + 1, by omega, by go_num, HG⟩
        case measure => simp [intOf] <;> omega
    · obtain rfl : k = n := by omega
      have hno := noCol_all (t := t) (by rw [HL.out]; exact HR.out)
      have HGO := Lib.hid (HO.out.trans (meansQ_no hno))
      clear hno
      go_wp2_with fail
      refine (HPS.out _).mono ?_
      rintro e w1 ⟨op, fld, y, m, rfl, hb1, hq, hk⟩
      have HB1 := Lib.hid (HB0.out.trans (hb1.mono HB0.out.size))
      have HZ1 := Lib.hid (HZ0.out.below hb1 Z0.out)
      have HQ := Lib.hid hq
      have HK := Lib.hid hk
      clear hb1 hq hk
      obtain ⟨r0, r1, r2, r3, r4, rf⟩ := HZ1.out.cells
      go_wp2
      refine bodyPost_ret (v := .tuple #[.agg #[.int .i64 op, .int .i64 fld, .string (ba y), .int .i64 m, .slice none 0 0], .bool (plainQ t 0).isSome]) (by simp [results, Tryz.results76, go_sem, r0, r1, r2, r3, r4]) rfl ?_
      refine lf_end (fun q h => HQ.out q (HGO.out.symm.trans h)) (by rw [HGO.out]) rfl ?_ HK.out
      repeat (first | (with_reducible exact HB1.out) | refine Below.setCell ?_ (by simp) _)
end Go.Proofs.YtomcdhmcjndioaaGreatDoor
end
