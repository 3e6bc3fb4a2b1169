/- The reference's Add. -/
import Derived.Test.YtlobiebmaheflaaPiece
import Derived.Deep.DeepCutAuto
import Derived.Deep.CutBlock
namespace Go.Proofs.Ytlobiebmaheflaa
open Go.RowKit
set_option linter.unusedVariables false

def nonE (x : ByteArray) : Bool := decide (x.toList ≠ [])
/-- What has been gathered of the new message: its identifiers so far. mb: its block, sb: the row of strings. -/
def RGath (w : World) (mb sb : Nat) (id : Int) (base : ByteArray) (sv : Value) (names ids : List ByteArray) (wr : World) : Prop :=
  ∃ iv, wr.heap[mb]? = some (.cells #[.int .i64 id, iv, .string base] 58 (0, 0)) ∧ wr.ownsRow 0 9 1 iv ids.length (ids.map Value.string) ∧ (∀ b, iv.ownBlock = some b → w.heap.size ≤ b ∧ b ≠ mb ∧ b ≠ sb) ∧
    wr.ownsRow 0 9 1 sv names.length (names.map Value.string) ∧ Below w.heap.size w wr
/-- One identifier more. -/
theorem rgath_push {w wr X w3 : World} {mb sb g3 cap3 tn tcap : Nat} {id : Int} {base : ByteArray} {sv : Value} {names ids : List ByteArray} {x : ByteArray} {TA : Option Addr} (htn : ids.length = tn)
    (hnb : wr.heap[mb]? = some (.cells #[.int .i64 id, .slice TA tn tcap, .string base] 58 (0, 0))) (hto : wr.ownsRow 0 9 1 (.slice TA tn tcap) tn (ids.map Value.string)) (htb : ∀ b, (Value.slice TA tn tcap).ownBlock = some b → w.heap.size ≤ b ∧ b ≠ mb ∧ b ≠ sb)
    (hso : wr.ownsRow 0 9 1 sv names.length (names.map Value.string)) (hsv : sv.ownBlock = some sb) (hbel : Below w.heap.size w wr) (hsn : w.heap.size ≤ mb) (hsbn : sb ≠ mb)
    (hX : X = (wr.alloc (.cells #[.string x] 9)).drew) (hgrow : X.grownBy w3 (Value.slice TA tn tcap).ownBlock)
    (hown3 : w3.ownsRow 0 9 1 (.slice (some ⟨g3, 0, none⟩) (tn + 1) cap3) (tn + 1) (ids.map Value.string ++ [.string x])) (hat3 : (Value.slice TA tn tcap).ownBlock = some g3 ∨ g3 = X.heap.size) :
    RGath w mb sb id base sv names (ids ++ [x]) (w3.setCell ⟨mb, 1, none⟩ (.slice (some ⟨g3, 0, none⟩) (tn + 1) cap3)) := by
  have hnl := heap_lt hnb
  have hsl := (hso.lt sb hsv).2
  have sX : X.heap.size = wr.heap.size + 1 := by rw [hX]; simp
  have far : ∀ b, b < wr.heap.size → (Value.slice TA tn tcap).ownBlock ≠ some b → w3.heap[b]? = wr.heap[b]? := fun b hb hne => by
    rw [hgrow.block b (by omega) (fun e => hne e.symm), hX]
    exact (MapKept.heap_alloc wr _).2 b hb
  have hg3 : w.heap.size ≤ g3 ∧ g3 ≠ mb ∧ g3 ≠ sb := by
    rcases hat3 with h | h
    · exact htb g3 h
    · have := hbel.size; exact ⟨by omega, by omega, by omega⟩
  have hn3 := (far mb hnl (fun e => (htb mb e).2.1 rfl)).trans hnb
  refine ⟨_, heap_setCell_same w3 mb 1 _ 58 _ hn3, ?_, fun b e => ?_, ?_, ?_⟩
  · rw [List.length_append, htn, List.map_append]
    exact ownsRow_block hown3 fun b e => heap_setCell_other _ _ _ _ (fun e2 => by have h3 : g3 = b := Option.some.inj e; exact hg3.2.1 (h3.trans e2))
  · have h3 : g3 = b := Option.some.inj e
    rw [← h3]; exact hg3
  · refine ownsRow_block hso fun b e => ?_
    have h3 : sb = b := Option.some.inj (hsv.symm.trans e)
    subst h3
    rw [heap_setCell_other _ _ _ _ hsbn]
    exact far sb hsl (fun e => (htb sb e).2.2 rfl)
  · have hbX : Below w.heap.size w X := by rw [hX]; exact (hbel.alloc hbel.size _).drew
    exact (hbX.grown hgrow hbX.size (fun k e => (htb k e).1)).setCell (p := ⟨mb, 1, none⟩) hsn _

/-- Where a new message goes. -/
theorem ins_at {m : Msg} : ∀ {L : List Msg} {k : Nat}, k ≤ L.length → (∀ t (h : t < L.length), t < k → L[t].id < m.id) → (∀ (h : k < L.length), ¬ L[k].id < m.id) → ins m L = L.take k ++ [m] ++ L.drop k
  | [], k, hk, _, _ => by simp [ins]
  | x :: r, 0, _, _, h2 => by
    have := h2 (by simp)
    simp only [List.getElem_cons_zero] at this
    simp [ins, this]
  | x :: r, k + 1, hk, h1, h2 => by
    have := h1 0 (by simp) (by omega)
    simp only [List.getElem_cons_zero] at this
    have ih := ins_at (m := m) (L := r) (k := k) (by simpa using hk) (fun t h ht => by have := h1 (t + 1) (by simpa using h) (by omega); simpa using this) (fun h => by have := h2 (by simpa using h); simpa using this)
    unfold ins
    rw [if_pos this, ih]
    simp

def RAddPost (w : World) (G : Nat → Prop) (xh : Nat) (L : List Msg) (m : Msg) (e : Ending) (w' : World) : Prop :=
  e = .returned (.int .i64 (addErr L m.id)) ∧ RefW w' G xh (addL L m) ∧ Off (fun b => b = xh) w w'

set_option maxRecDepth 100000 in
set_option maxHeartbeats 4000000 in
theorem radd_any (id : Int) (own base : ByteArray) (refs : List ByteArray) (A : Option Addr) (rn rc : Nat) (w : World) {G : Nat → Prop} {xh : Nat} {L : List Msg} (h : RefW w G xh L) (hid : I64 id)
    (hr : Strs w w.heap.size A rn refs) (hrn : rn ≤ 8) (hrc : rn ≤ rc) (hnil : A = none → rc = 0) (hrcm : rc ≤ maxLen) (hown : Fits own) (hbase : Fits base) (hL : L.length ≤ 1000) :
    Calls Try.prog 13 #[.pointer (some ⟨xh, 0, none⟩), .int .i64 id, .string own, .slice A rn rc, .string base] w (RAddPost w G xh L ⟨id, idsOf own refs, base⟩) := by
  have HR := Lib.hid h
  have HS := Lib.hid hr
  have HOWN := Lib.hid hown
  have HBASE := Lib.hid hbase
  have HLL := Lib.hid hL
  have HNIL := Lib.hid hnil
  have HID := Lib.hid hid
  clear h hr hown hbase hL hnil hid
  by_cases hlt : id < 1
  · have HE := Lib.hid (show addErr L id = 1 by unfold addErr; rw [if_pos hlt])
    go_enter Try.func13, Try.ntmps13
    go_wp2
    go_ret
    refine ⟨by rw [HE.out]; rfl, ?_, Off.refl _ _⟩
    have : addL L ⟨id, idsOf own refs, base⟩ = L := by unfold addL; rw [if_neg (by rw [HE.out]; omega)]
    rw [this]
    exact HR.out
  · have hd1 : decide (id < 1) = false := by simp; omega
    go_enter Try.func13, Try.ntmps13
    go_wp2_with fail
    refine (place_any id w HR.out (by have := HLL.out; omega)).mono ?_
    rintro e w1 ⟨r, rfl, hr, hb⟩
    have h1 := HR.out.below hb
    have HB := Lib.hid hb
    have H1 := Lib.hid h1
    rcases hr with ⟨rfl, hno⟩ | ⟨k, hk, rfl, hid⟩
    · have HNO := Lib.hid hno
      obtain ⟨v, ms, hx, hrow, hms⟩ := h1.row
      have hlen : ms.length = L.length := by rw [← hms]; simp
      obtain ⟨n, hn⟩ : ∃ n, ms.length = n := ⟨_, rfl⟩
      obtain ⟨RA, rcap, rfl, q1, q2, q3, q4⟩ := hrow.at_
      rw [hn] at hx hrow q1
      have c0 : w1.cell? ⟨xh, 0, none⟩ = some (.slice RA n rcap) := by simp [World.cell?, hx]
      have hn1000 : n ≤ 1000 := by have := HLL.out; omega
      have hd2 : decide ((1000 : Int) < rn) = false := by simp; omega
      have hd3 : decide ((65536 : Int) ≤ n) = false := by simp; omega
      have HX := Lib.hid hx
      have HROW := Lib.hid hrow
      have HMS := Lib.hid hms
      have HN := Lib.hid hn
      have HQ4 := Lib.hid q4
      have HQ3 := Lib.hid q3
      clear hb h1 hno hx hrow hms hn q4 q3 hlen
      go_upto_region 8 with (fail)
      obtain ⟨W, hW⟩ : ∃ W, W = w1.alloc (.cells #[.int .i64 id, .slice none 0 0, .string base] 58) := ⟨_, rfl⟩
      obtain ⟨mb, hmb⟩ : ∃ mb, mb = w1.heap.size := ⟨_, rfl⟩
      rw [← hW, ← hmb]
      have HW := Lib.hid hW
      have HMB := Lib.hid hmb
      clear hW hmb hd1 hd2 hd3
      go_cut [12] (fun v wc => ∃ sb cap m, v = .slice (some ⟨sb, 0, none⟩) m cap ∧ Hid (m = rn + 1) ∧ Hid (RGath w1 mb sb id base v (own :: refs) [] wc) ∧ Hid (w1.heap.size ≤ sb ∧ sb ≠ mb ∧ m ≤ cap ∧ cap ≤ maxLen))
      case first =>
        obtain ⟨i0, hi, hz0, hz1, hz2⟩ := info_parts str_info
        have hsW : W.heap.size = w1.heap.size + 1 := by rw [HW.out]; simp
        have hown0 : (W.alloc (.cells #[.string own] 9)).ownsRow 0 9 1 (.slice (some ⟨W.heap.size, 0, none⟩) 1 1) 1 [.string own] := ownsRow_one (MapKept.heap_alloc W _).1
        have hbW : Below w1.heap.size w1 (W.alloc (.cells #[.string own] 9)) := by rw [HW.out]; exact ((Below.refl _ _).alloc (Nat.le_refl _) _).alloc (by simp) _
        have hnb : (W.alloc (.cells #[.string own] 9)).heap[mb]? = some (.cells #[.int .i64 id, .slice none 0 0, .string base] 58 (0, 0)) := by
          rw [(MapKept.heap_alloc W _).2 mb (by rw [HMB.out, hsW]; omega), HW.out, HMB.out]; exact (MapKept.heap_alloc w1 _).1
        have HSW := Lib.hid hsW
        have HOW0 := Lib.hid hown0
        have HBW := Lib.hid hbW
        have HNB := Lib.hid hnb
        clear hsW hown0 hbW hnb
        cases A with
        | none =>
          obtain ⟨hl0, -, hrun⟩ := HS.out
          have hrefs : refs = [] := by
            rcases hrun with h1 | ⟨_, h1, _⟩
            · exact List.map_eq_nil_iff.1 h1
            · cases h1
          have hr0 : rn = 0 := by rw [hl0, hrefs]; rfl
          have hc0 := HNIL.out rfl
          subst hr0
          subst hc0
          have HREFS := Lib.hid hrefs
          clear hl0 hrun hrefs
          go_wp2_with (at_builtin; refine wpList_append_own_none rfl _ _ _ rfl 0 9 i0 1 Try.underlying32 hi _ _ _ rfl (by exact HOW0.out) rfl ?_)
          go_meet
          case rel =>
            refine ⟨_, 1, 1, rfl, rfl, ⟨.slice none 0 0, HNB.out, World.ownsRow_nil _ _ _ _, (fun b e => by cases e), by rw [HREFS.out]; exact HOW0.out, HBW.out⟩, ?_⟩
            exact ⟨by rw [HSW.out]; omega, by rw [HSW.out, HMB.out]; omega, by omega, by simp only [maxLen]; omega⟩
        | some ad =>
          have hnews : ∀ j u, (refs.map Value.string)[j]? = some u → (W.alloc (.cells #[.string own] 9)).cell? (ad.add j) = some u := fun j u hu => by
            rcases HS.out.2.2 with h1 | ⟨ad', h1, hb, h2⟩
            · rw [h1] at hu; simp at hu
            · injection h1 with h1
              subst h1
              have hbs := HB.out.size
              rw [HBW.out.cell (by rw [add_block]; omega), HB.out.cell (by rw [add_block]; exact hb)]
              exact h2 j u hu
          have HNEWS := Lib.hid hnews
          have HRL := Lib.hid (show (refs.map Value.string).length = rn * 1 by rw [List.length_map, ← HS.out.1]; omega)
          clear hnews
          go_wp2_with (at_builtin; refine wpList_append_own_at _ rfl _ _ _ rfl 0 9 i0 (.string ⟨#[]⟩) 1 16 Try.underlying32 hi hz0 hz1 hz2 rfl (by omega) _ _ _ rfl (by exact HOW0.out) ad rn rc _ rfl HRL.out (by exact HNEWS.out) (by intro u hu; obtain ⟨x, -, rfl⟩ := List.mem_map.1 hu; rfl) (by simp only [maxLen]; omega) (by omega) (Nat.zero_le _) ?_; intro v' w2 hown1 hg1 _ hat1; obtain ⟨sb, cap, rfl, -, hsb⟩ := hown1.form (by omega); obtain ⟨m, hm⟩ : ∃ m, 1 + rn = m := ⟨_, rfl⟩; have HM := Lib.hid hm; have HOWN1 := Lib.hid hown1; have HG1 := Lib.hid hg1; have HAT1 := Lib.hid hat1; rw [hm]; clear hm hown1 hg1 hat1)
          go_meet
          case rel =>
            have hs2 : (W.alloc (.cells #[.string own] 9)).heap.size = w1.heap.size + 2 := by simp [HSW.out]
            have hsb2 : w1.heap.size + 1 ≤ sb := by
              rcases HAT1.out with h1 | h1
              · have h3 : sb = W.heap.size := Option.some.inj h1
                rw [h3, HSW.out]; exact Nat.le_refl _
              · have h3 : sb = (W.alloc (.cells #[.string own] 9)).heap.size := Option.some.inj h1
                rw [h3, hs2]; omega
            have hnr : mb ≠ sb := by rw [HMB.out]; omega
            have hgrow : Below w1.heap.size w1 w2 := HBW.out.grown HG1.out (by rw [hs2]; omega) (fun k e => by have h3 : W.heap.size = k := Option.some.inj e; rw [← h3, HSW.out]; omega)
            have hnb1 : w2.heap[mb]? = some (.cells #[.int .i64 id, .slice none 0 0, .string base] 58 (0, 0)) := (HG1.out.block mb (by rw [hs2, HMB.out]; omega) (fun e => by have h3 : mb = W.heap.size := Option.some.inj e; rw [HSW.out, HMB.out] at h3; omega)).trans HNB.out
            have hcap := HOWN1.out.2
            refine ⟨sb, cap, m, rfl, by rw [← HM.out, Nat.add_comm]; rfl, ⟨.slice none 0 0, hnb1, World.ownsRow_nil _ _ _ _, (fun b e => by cases e), ?_, hgrow⟩, by omega, fun e => hnr e.symm, ?_⟩
            · rw [List.length_cons, List.map_cons, ← HS.out.1, Nat.add_comm rn 1, ← HM.out]; exact HOWN1.out
            · rcases hcap with ⟨h1, _⟩ | ⟨g', cap', cur, h1, _, _, h2, h3, _⟩
              · cases h1
              · injection h1 with h1 h4 h5
                subst h5
                exact ⟨by rw [← HM.out]; exact h2, h3⟩
      case rest =>
        obtain ⟨sb, cap, m, rfl, hm, hG, hS⟩ := hcut
        have HM := hm
        have hm9 : m ≤ 9 := by have := hm.out; omega
        clear hm
        obtain ⟨hsb1, hsb2, hcap1, hcap2⟩ := hS.out
        have HSB := hS
        have hcap3 : cap ≤ 9223372036854775807 := by simpa only [maxLen] using hcap2
        have HG := hG
        clear hS hG hcap2
        go_wp2
        go_loopw [13] (fun i wr => ∃ j : Nat, j ≤ m ∧ i = .int .i64 j ∧ Hid (RGath w1 mb sb id base (.slice (some ⟨sb, 0, none⟩) m cap) (own :: refs) (((own :: refs).take j).filter nonE) wr)) (fun i _ => m - (intOf i).toNat)
        case atStart => exact ⟨0, Nat.zero_le _, rfl, HG⟩
        case round =>
          clear HG
          obtain ⟨j, hj, rfl, hG⟩ := hrel
          by_cases hlt2 : j < m
          · have hjl : j < (own :: refs).length := by rw [List.length_cons, ← HS.out.1, ← HM.out]; exact hlt2
            obtain ⟨x, hx⟩ : ∃ x, (own :: refs)[j] = x := ⟨_, rfl⟩
            obtain ⟨ids, hids⟩ : ∃ l, ((own :: refs).take j).filter nonE = l := ⟨_, rfl⟩
            have hnext : ((own :: refs).take (j + 1)).filter nonE = ids ++ [x].filter nonE := by
              rw [List.take_succ_eq_append_getElem hjl, hx, List.filter_append, hids]
            have htl : ids.length ≤ 9 := by
              rw [← hids]
              have := List.length_filter_le nonE ((own :: refs).take j)
              simp only [List.length_take] at this
              omega
            rw [hids] at hG
            obtain ⟨iv, hnb, hto, htb, hso, hbel⟩ := hG.out
            have kx : wr.cell? ⟨sb, j, none⟩ = some (.string x) := by
              have := hso.cells (g := sb) rfl j (.string x) (by rw [List.getElem?_map, List.getElem?_eq_getElem hjl, hx]; rfl)
              by_cases e : j = 0
              · subst e; simpa [Addr.add] using this
              · simpa [Addr.add, e] using this
            have kn : wr.cell? ⟨mb, 1, none⟩ = some iv := by simp [World.cell?, hnb]
            have knf : wr.frozen? ⟨mb, 1, none⟩ = false := by simp [World.frozen?, hnb]
            have hnl : mb < wr.heap.size := heap_lt hnb
            have hj2 : (j : Int) < m := by omega
            obtain ⟨TA, tn, tcap, rfl⟩ : ∃ a l c, iv = .slice a l c := by
              rcases hto.2 with ⟨rfl, _⟩ | ⟨g, cap, cur, rfl, _⟩
              · exact ⟨_, _, _, rfl⟩
              · exact ⟨_, _, _, rfl⟩
            have htn : ids.length = tn := by
              rcases hto.2 with ⟨h1, h2⟩ | ⟨g, cap, cur, h1, _⟩
              · injection h1 with _ h1 _; omega
              · injection h1 with _ h1 _; omega
            rw [htn] at hto htl
            have HX2 := Lib.hid hx
            have HIDS := Lib.hid hids
            have HNEXT := Lib.hid hnext
            have HNB := Lib.hid hnb
            have HTO := Lib.hid hto
            have HTB := Lib.hid htb
            have HSO := Lib.hid hso
            have HBEL := Lib.hid hbel
            have HTN := Lib.hid htn
            clear hx hids hnext hG hnb hto htb hso hbel htn
            by_cases hx0 : x.toList = []
            · have hx1 : x.toList.isEmpty = true := by rw [hx0]; rfl
              have HX0 := Lib.hid hx0
              clear hx0
              go_wp2
              go_roundw
              case rel =>
                refine ⟨j + 1, by omega, by go_num, ?_⟩
                rw [HNEXT.out, show [x].filter nonE = [] by simp [nonE, HX0.out], List.append_nil]
                exact ⟨_, HNB.out, by rw [HTN.out]; exact HTO.out, HTB.out, HSO.out, HBEL.out⟩
              case measure => simp [intOf] <;> omega
            · have hx1 : x.toList.isEmpty = false := by cases hxx : x.toList with | nil => exact absurd hxx hx0 | cons a r => rfl
              have HX0 := Lib.hid hx0
              clear hx0
              obtain ⟨i0, hi, hz0, hz1, hz2⟩ := info_parts str_info
              obtain ⟨X, hX⟩ : ∃ X, X = (wr.alloc (.cells #[.string x] 9)).drew := ⟨_, rfl⟩
              have hXo : X.ownsRow 0 9 1 (.slice TA tn tcap) tn (ids.map Value.string) := by
                rw [hX]; exact ownsRow_block HTO.out fun b e => (MapKept.heap_alloc wr _).2 b (HTO.out.lt b e).2
              have hXn : ∀ j u, [Value.string x][j]? = some u → X.cell? ((⟨wr.heap.size, 0, none⟩ : Addr).add j) = some u := by
                rw [hX]; exact World.news_of_block (w := (wr.alloc (.cells #[.string x] 9)).drew) (MapKept.heap_alloc wr _).1
              have hXs : X.heap.size = wr.heap.size + 1 := by rw [hX]; simp
              have e2X : X.cell? ⟨mb, 1, none⟩ = some (.slice TA tn tcap) := by rw [hX]; exact (World.cell?_alloc_past _ _ _ hnl).trans kn
              have f2X : X.frozen? ⟨mb, 1, none⟩ = false := by rw [hX]; exact (World.frozen?_alloc_past _ _ _ hnl).trans knf
              rw [hX] at hXo hXn
              have HX := Lib.hid hX
              have HXO := Lib.hid hXo
              have HXN := Lib.hid hXn
              have HXS := Lib.hid hXs
              have HE2 := Lib.hid e2X
              have HF2 := Lib.hid f2X
              clear hX hXo hXn hXs e2X f2X
              have HNC : Hid (∀ w3, X.grownBy w3 (Value.slice TA tn tcap).ownBlock → w3.cell? ⟨mb, 1, none⟩ = some (.slice TA tn tcap) ∧ w3.frozen? ⟨mb, 1, none⟩ = false) := fun w3 h => by
                have hl : mb < X.heap.size := by rw [HXS.out]; omega
                have hne : some mb ≠ (Value.slice TA tn tcap).ownBlock := fun e => (HTB.out mb e.symm).2.1 rfl
                exact ⟨(h.cell_far ⟨mb, 1, none⟩ hl hne).trans HE2.out, (h.frozen_far ⟨mb, 1, none⟩ hl hne).trans HF2.out⟩
              go_wp2
              go_region_law ((refine step_append_lies _ (by rfl) _ _ _ (by rfl) 0 9 i0 (.string ⟨#[]⟩) 1 16 Try.underlying32 hi hz0 hz1 hz2 rfl (by omega) (.slice TA tn tcap) tn _ (by rfl) (by exact HXO.out) ⟨wr.heap.size, 0, none⟩ 1 1 [.string x] (by rfl) rfl (by exact HXN.out) (by intro u hu; simp at hu; subst hu; rfl) (by omega) (by simp only [maxLen]; omega) (by omega) (Nat.zero_le _) _ rfl ?_; intro g3 cap3 w3 hown3 hgrow hat3 hlt3; rw [← HX.out] at hgrow hat3; have hcc := HNC.out w3 hgrow; have hc1 := hcc.1; have hc2 := hcc.2; have G1 := Lib.hid hown3; have G2 := Lib.hid hgrow; have G3 := Lib.hid hat3; clear hown3 hgrow hat3 hlt3 hcc))
              all_goals
                go_wp2
                go_roundw
                case rel =>
                  refine ⟨j + 1, by omega, by go_num, ?_⟩
                  rw [HNEXT.out, show [x].filter nonE = [x] by simp [nonE, HX0.out]]
                  exact rgath_push HTN.out HNB.out HTO.out HTB.out HSO.out rfl HBEL.out (by rw [HMB.out]; exact Nat.le_refl _) HSB.out.2.1 HX.out G2.out G1.out G3.out
                case measure => simp [intOf] <;> omega
          · obtain rfl : j = m := by omega
            obtain ⟨wo, hwo⟩ : ∃ x, x = wr := ⟨wr, rfl⟩
            subst hwo
            obtain ⟨iv, hnb, hto, htb, hso, hbel⟩ := hG.out
            have hfull : (own :: refs).take j = own :: refs := List.take_of_length_le (by rw [List.length_cons, ← HS.out.1, HM.out]; exact Nat.le_refl _)
            rw [hfull] at hto
            have hide : (own :: refs).filter nonE = idsOf own refs := rfl
            rw [hide] at hto
            obtain ⟨IA, icap, rfl, hidrow⟩ : ∃ a c, iv = .slice a (idsOf own refs).length c ∧ IdRow wo G (.slice a (idsOf own refs).length c) (idsOf own refs) := by
              have hfit : ∀ s, s ∈ idsOf own refs → Fits s := fun s hs => by
                have hs2 : s ∈ own :: refs := (List.mem_filter.1 hs).1
                rcases List.mem_cons.1 hs2 with rfl | hs2
                · exact HOWN.out
                · exact HS.out.2.1 s hs2
              have hlen9 : (idsOf own refs).length ≤ 1000000 := by
                have h1 : (idsOf own refs).length ≤ (own :: refs).length := List.length_filter_le _ _
                have h2 := HS.out.1
                rw [List.length_cons] at h1
                omega
              rcases hto.2 with ⟨rfl, h0⟩ | ⟨g, c, cur, rfl, _, hg, _⟩
              · exact ⟨none, 0, by rw [h0], none, 0, rfl, hfit, hlen9, .inl (List.eq_nil_of_length_eq_zero h0)⟩
              · refine ⟨some ⟨g, 0, none⟩, c, rfl, some ⟨g, 0, none⟩, c, rfl, hfit, hlen9, .inr ⟨_, rfl, ?_, heap_lt hg, fun t s ht => ?_⟩⟩
                · exact HR.out.fresh g (by have h1 := (htb g rfl).1; have h2 := HB.out.size; omega)
                · exact hto.cells (g := g) rfl t _ (by rw [List.getElem?_map, ht]; rfl)
            obtain ⟨il, hil⟩ : ∃ l, (idsOf own refs).length = l := ⟨_, rfl⟩
            rw [hil] at hnb hto hidrow htb
            have hxl : xh < w1.heap.size := heap_lt HX.out
            have c1 : wo.cell? ⟨xh, 0, none⟩ = some (.slice RA n rcap) := (hbel.cell (p := ⟨xh, 0, none⟩) hxl).trans c0
            have km0 : wo.cell? ⟨mb, 0, none⟩ = some (.int .i64 id) := by simp [World.cell?, hnb]
            have km1 : wo.cell? ⟨mb, 1, none⟩ = some (.slice IA il icap) := by simp [World.cell?, hnb]
            have km2 : wo.cell? ⟨mb, 2, none⟩ = some (.string base) := by simp [World.cell?, hnb]
            have HRWR := Lib.hid (H1.out.below hbel)
            have HNB := Lib.hid hnb
            have HIDROW := Lib.hid hidrow
            have HBEL := Lib.hid hbel
            clear hnb hto hidrow htb hso hbel hfull hide hG
            go_upto_block 2 with (fail)
            go_cut [14] (fun i wc => ∃ k : Nat, i = .int .i64 k ∧ k ≤ n ∧ Hid (∀ t (h : t < L.length), t < k → L[t].id < id) ∧ Hid (∀ (h : k < L.length), ¬ L[k].id < id) ∧ Hid (wc = wo))
            case first =>
              go_wp2
              go_loopw [14] (fun i wr => ∃ k : Nat, k ≤ n ∧ i = .int .i64 k ∧ Hid (∀ t (h : t < L.length), t < k → L[t].id < id) ∧ Hid (wr = wo)) (fun i _ => n - (intOf i).toNat)
              case atStart => exact ⟨0, Nat.zero_le _, rfl, fun t ht h => absurd h (by omega), rfl⟩
              case round =>
                obtain ⟨k, hk, rfl, hT, hwr⟩ := hrel
                have hwr' := hwr.out
                subst hwr'
                by_cases hkn : k < n
                · have hkm : k < ms.length := by rw [HN.out]; exact hkn
                  obtain ⟨g, hRA, hGg, hgl, d0, -⟩ := HQ4.out k hkm
                  subst hRA
                  obtain ⟨y, hy⟩ : ∃ y, ms[k].1.id = y := ⟨_, rfl⟩
                  rw [hy] at d0
                  have d1 := (HBEL.out.cell (p := ⟨g, k * 3, none⟩) hgl).trans d0
                  have hkL : k < L.length := by rw [← HMS.out, List.length_map]; exact hkm
                  have hyL : L[k].id = y := by rw [← hy]; simp [← HMS.out]
                  have HY := Lib.hid hyL
                  have hk2 : (k : Int) < n := by omega
                  clear hy d0 hgl hyL
                  by_cases hlt3 : y < id
                  · have hd5 : decide (y < id) = true := by simp [hlt3]
                    go_wp2
                    go_roundw
                    case rel =>
                      refine ⟨k + 1, by omega, by go_num, fun t ht h => ?_, trivial⟩
                      by_cases e : t = k
                      · subst e; rw [HY.out]; exact hlt3
                      · exact hT.out t ht (by omega)
                    case measure => simp [intOf] <;> omega
                  · have hd5 : decide (y < id) = false := by simp; omega
                    go_wp2
                    go_meet
                    case rel => exact ⟨k, rfl, by omega, hT, fun h => by rw [HY.out]; exact hlt3, rfl⟩
                · obtain rfl : k = n := by omega
                  go_wp2
                  go_meet
                  case rel => exact ⟨k, rfl, by omega, hT, fun h => by have := HN.out; rw [← HMS.out, List.length_map] at h; omega, rfl⟩
            case rest =>
              obtain ⟨k, rfl, hkn, hT, hT2, hwc⟩ := hcut
              have hwc' := hwc.out
              subst hwc'
              obtain ⟨m0, hm0⟩ : ∃ m0 : Msg, m0 = ⟨id, idsOf own refs, base⟩ := ⟨_, rfl⟩
              obtain ⟨pv, hpv⟩ : ∃ pv, pv = Value.slice IA il icap := ⟨_, rfl⟩
              have hmm : ∀ p, p ∈ ms.take k ++ [(m0, pv)] ++ ms.drop k → IdRow wc G p.2 p.1.ids ∧ I64 p.1.id ∧ Fits p.1.base := fun p hp => by
                have hold : p ∈ ms → IdRow wc G p.2 p.1.ids ∧ I64 p.1.id ∧ Fits p.1.base := fun hp => by
                  obtain ⟨h1, h2⟩ := HROW.out.2.2 p hp
                  exact ⟨h1.keep (fun b hg hl => ⟨HBEL.out.block b hl, hg⟩) HBEL.out.size, h2⟩
                simp only [List.mem_append, List.mem_singleton] at hp
                rcases hp with (hp | rfl) | hp
                · exact hold (List.mem_of_mem_take hp)
                · rw [hm0, hpv]; exact ⟨HIDROW.out, HID.out, HBASE.out⟩
                · exact hold (List.mem_of_mem_drop hp)
              have hins : (ms.take k ++ [(m0, pv)] ++ ms.drop k).map (·.1) = ins m0 L := by
                rw [ins_at (m := m0) (L := L) (k := k) (by have := HN.out; rw [← HMS.out, List.length_map]; omega) (fun t h ht => by rw [hm0]; exact hT.out t h ht) (fun h => by rw [hm0]; exact hT2.out h)]
                simp only [List.map_append, List.map_take, List.map_drop, HMS.out, List.map_cons, List.map_nil]
              have hadd : addErr L id = 0 := by unfold addErr; rw [if_neg (by omega), if_neg (fun ⟨x, hx, e⟩ => HNO.out x hx e)]
              have hend : ∀ v w5, NewRow wc w5 v (ms.take k ++ [(m0, pv)] ++ ms.drop k) → RAddPost w G xh L ⟨id, idsOf own refs, base⟩ (.returned (.int .i64 0)) (w5.setCell ⟨xh, 0, none⟩ v) := fun v w5 hN5 => by
                have h5 := ref_set HRWR.out hN5 hmm (by rw [hins]; exact ins_asc HR.out.asc fun x hx e => HNO.out x hx (by rw [e, hm0]))
                rw [hins] at h5
                refine ⟨by rw [hadd], ?_, ?_⟩
                · have : addL L ⟨id, idsOf own refs, base⟩ = ins m0 L := by unfold addL; rw [if_pos hadd, hm0]
                  rw [this]; exact h5.1
                · exact ((Off.of_below (F := fun b => b = xh) HB.out fun k h1 h2 => by omega).trans (.of_below (F := fun b => b = xh) HBEL.out fun k h1 h2 => by omega)).trans h5.2
              have HEND := Lib.hid hend
              have HM0 := Lib.hid hm0
              have HPV := Lib.hid hpv
              have HRN := Lib.hid (NewRow.nil_ wc)
              clear hmm hins hadd hend hm0 hpv hT hT2 hwc
              have hcm : [(m0, pv)].flatMap msgCells = [.int .i64 id, .slice IA il icap, .string base] := by rw [HM0.out, HPV.out]; rfl
              have HCM := Lib.hid hcm
              have hop : ∀ p, p ∈ [(m0, pv)] → p.2.oneCell' = true := fun p hp => by rw [List.mem_singleton] at hp; rw [hp, HPV.out]; rfl
              have HOP := Lib.hid hop
              have HXL := Lib.hid hxl
              have hxc := (HBEL.out.block xh hxl).trans HX.out
              have HXC := Lib.hid hxc
              have hstore : ∀ w5 v ms', NewRow wc w5 v ms' → w5.cell? ⟨xh, 0, none⟩ = some (.slice RA n rcap) ∧ w5.frozen? ⟨xh, 0, none⟩ = false := fun w5 v ms' hN5 => by
                have h6 := (hN5.2.block xh (heap_lt HXC.out)).trans HXC.out
                exact ⟨by simp [World.cell?, h6], by simp [World.frozen?, h6]⟩
              have HST := Lib.hid hstore
              clear hcm hop hxl hxc hstore
              rcases HROW.out.1.2 with ⟨hv0, hn0⟩ | ⟨g, cap', cur, hv0, q0, q1', q2', q3', q4'⟩
              · injection hv0 with e1 e2 e3
                subst e1
                subst e3
                have hk0 : k = 0 := by omega
                have hn00 : n = 0 := by omega
                subst hk0
                subst hn00
                have hms0 : ms = [] := List.eq_nil_of_length_eq_zero HN.out
                have HMS0 := Lib.hid hms0
                clear hms0 hn0
                go_wp2_with (at_builtin; first | (refine wpList_piece_none HNRB.out rfl _ _ rfl rfl rfl ?_; have f9 := (HST.out _ _ _ HNRB.out).2) | (refine wpList_piece (ms1 := []) (ms2 := [(m0, pv)]) (HRN.out.drew _) rfl _ _ rfl rfl ⟨wc.heap.size, 0, none⟩ 1 1 rfl rfl (by rw [HCM.out]; exact World.news_of_block (MapKept.heap_alloc wc _).1) HOP.out (by simp) ?_; intro A2 n2 c2 w3 hnr2 hn2; have c3 := (HST.out _ _ _ hnr2).1; have HNRB := Lib.hid hnr2; clear hnr2 hn2) | (refine wpList_piece_none HRN.out rfl _ _ rfl rfl rfl ?_))
                go_ret
                exact HEND.out _ _ (by rw [HMS0.out]; exact HNRB.out)
              · obtain ⟨rfl, -, rfl⟩ : RA = some ⟨g, 0, none⟩ ∧ n = ms.length ∧ rcap = cap' := by injection hv0 with e1 e2 e3; exact ⟨e1, e2, e3⟩
                clear hv0
                have hrow := HROW.out.keep (w' := wc) (G' := G) (fun b hg hl => ⟨HBEL.out.block b hl, hg⟩) HBEL.out.size
                have hgl : g < wc.heap.size := by have h1 := HBEL.out.size; have h2 := heap_lt q1'; omega
                have HROWC := Lib.hid hrow
                have HGL := Lib.hid hgl
                have hkc : (k : Int) ≤ rcap := by omega
                have hkc2 : k ≤ rcap := by omega
                have hk3 : (k : Int) ≤ n := by omega
                have hnc : (n : Int) ≤ rcap := by omega
                have hcx2 : (rcap : Int) ≤ 9223372036854775807 := by simp only [maxLen] at q2; omega
                have HP1 := Lib.hid (fun j u => hrow.piece 0 k j u)
                have HL1 := Lib.hid (show ((ms.drop 0).take k).length = k by rw [List.length_take, List.length_drop]; have := HN.out; omega)
                have HO1 := Lib.hid (show ∀ p, p ∈ ms → p.2.oneCell' = true from fun p hp => (HROWC.out.2.2 p hp).1.one)
                have had : ∃ ad : Addr, (if rcap = k then some (⟨g, 0, none⟩ : Addr) else some ⟨g, k * 3, none⟩) = some ad ∧ ad.block < wc.heap.size ∧ ∀ j u, (((ms.drop k).take (n - k)).flatMap msgCells)[j]? = some u → wc.cell? (ad.add j) = some u := by
                  by_cases e : rcap = k
                  · rw [if_pos e]
                    refine ⟨_, rfl, HGL.out, fun j u hu => ?_⟩
                    rw [show n - k = 0 by omega] at hu
                    simp at hu
                  · rw [if_neg e]
                    exact ⟨_, rfl, HGL.out, HROWC.out.piece k (n - k)⟩
                obtain ⟨ad, had1, had2, had3⟩ := had
                have HAD1 := Lib.hid had1
                have HAD2 := Lib.hid had2
                have HAD3 := Lib.hid had3
                clear hrow hgl had1 had2 had3 q0 q1' q2' q3' q4'
                go_wp2_with (at_builtin; first | (refine wpList_piece (ms2 := (ms.drop k).take (n - k)) HNRB.out rfl (.tmp 93) (.tmp 99) rfl rfl ad (n - k) (rcap - k) (by show Value.slice (if rcap = k then some (⟨g, 0, none⟩ : Addr) else some ⟨g, k * 3, none⟩) (n - k) (rcap - k) = _; rw [HAD1.out]) (by rw [List.length_take, List.length_drop, HN.out]; omega) (fun j u hu => (HNRB.out.2.cell (p := ad.add j) (by rw [add_block]; exact HAD2.out)).trans (HAD3.out j u hu)) (fun p hp => HO1.out p (List.mem_of_mem_drop (List.mem_of_mem_take hp))) (by have h5 := HL1.out; rw [List.nil_append, List.length_append, h5]; simp; omega) ?_; intro A3 n3 c4 w4 hnr3 hn3; have c5 := (HST.out _ _ _ hnr3).1; have f9 := (HST.out _ _ _ hnr3).2; have HNRC := Lib.hid hnr3; clear hnr3 hn3) | (refine wpList_piece (ms2 := [(m0, pv)]) (HNRA.out.drew _) rfl _ _ rfl rfl ⟨w2.heap.size, 0, none⟩ 1 1 rfl rfl (by rw [HCM.out]; exact World.news_of_block (MapKept.heap_alloc w2 _).1) HOP.out (by have h5 := HL1.out; rw [List.nil_append, h5]; omega) ?_; intro A2 n2 c2 w3 hnr2 hn2; have c3 := (HST.out _ _ _ hnr2).1; have HNRB := Lib.hid hnr2; clear hnr2 hn2) | (refine wpList_piece (ms2 := (ms.drop 0).take k) HRN.out rfl _ _ rfl rfl ⟨g, 0, none⟩ k rcap rfl HL1.out (by intro j u hu; have := HP1.out j u hu; simpa using this) (fun p hp => HO1.out p (List.mem_of_mem_drop (List.mem_of_mem_take hp))) (by simp; omega) ?_; intro A1 n1 c7 w2 hnr1 hn1; have c8 := (HST.out _ _ _ hnr1).1; have km0 := (hnr1.2.cell (p := ⟨mb, 0, none⟩) (heap_lt HNB.out)).trans km0; have km1 := (hnr1.2.cell (p := ⟨mb, 1, none⟩) (heap_lt HNB.out)).trans km1; have km2 := (hnr1.2.cell (p := ⟨mb, 2, none⟩) (heap_lt HNB.out)).trans km2; have HNRA := Lib.hid hnr1; clear hnr1 hn1))
                all_goals
                  go_ret
                  have hfin := HNRC.out
                  have e9 : [] ++ List.take k (List.drop 0 ms) ++ [(m0, pv)] ++ List.take (n - k) (List.drop k ms) = ms.take k ++ [(m0, pv)] ++ ms.drop k := by
                    rw [List.nil_append, List.drop_zero]
                    congr 1
                    exact List.take_of_length_le (by rw [List.length_drop, HN.out]; exact Nat.le_refl _)
                  rw [e9] at hfin
                  exact HEND.out _ _ hfin
    · go_wp2
      go_ret
      have hex : ∃ x, x ∈ L ∧ x.id = id := ⟨L[k], List.getElem_mem hk, hid⟩
      have he4 : addErr L id = 4 := by unfold addErr; rw [if_neg (by omega), if_pos hex]
      refine ⟨by rw [he4]; rfl, ?_, .of_below HB.out fun _ h1 h2 => by omega⟩
      have : addL L ⟨id, idsOf own refs, base⟩ = L := by unfold addL; rw [if_neg (by rw [he4]; omega)]
      rw [this]
      exact H1.out
end Go.Proofs.Ytlobiebmaheflaa
