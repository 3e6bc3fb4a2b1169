/- Layer 9: the contract of field. -/
import Derived.Test.YtnpgnohlcphfnaaGreatDoorHdA
import Derived.Test.YtnpgnohlcphfnaaGreatDoorM16
import Derived.Test.YtnpgnohlcphfnaaGreatDoorFldRow
namespace Go.Proofs.YtnpgnohlcphfnaaGreatDoor
open Go.RowKit
set_option linter.unusedVariables false

def fldV (f : Fld) : Value := .agg #[.string (ba f.name), .string (ba f.value), .string (ba f.raw), .bool f.bad]
def FldPost (w : World) (f : Fld) (e : Ending) (w' : World) : Prop := e = .returned (fldV f) ∧ Below w.heap.size w w'
theorem fld_fin {w w' : World} {f : Fld} {n v r : List UInt8} {b : Bool} (h : f = ⟨n, v, r, b⟩) (hb : Below w.heap.size w w') : FldPost w f (.returned (.agg #[.string (ba n), .string (ba v), .string (ba r), .bool b])) w' := by
  subst h
  exact ⟨rfl, hb⟩
theorem trimR_len (l : List UInt8) : (Lib.trimRightS l blanksP).length ≤ l.length := by
  unfold Lib.trimRightS
  rw [List.length_reverse]
  refine Nat.le_trans (List.dropWhile_suffix _).length_le ?_
  rw [List.length_reverse]
  exact Nat.le_refl _
theorem fldP_none {l g : List UInt8} (h : nudeP (l.take (endP l)) = g) (h2 : cutP 58 g = none) : fldP l = ⟨[], [], l, true⟩ := by
  subst h
  unfold fldP
  rw [h2]
theorem fldP_some {l g a b : List UInt8} (h : nudeP (l.take (endP l)) = g) (h2 : cutP 58 g = some (a, b)) : fldP l = if nameOk (Lib.trimRightS a blanksP) = true then ⟨Lib.trimRightS a blanksP, nudeP (l.drop (a.length + 1)), l, false⟩ else ⟨[], [], l, true⟩ := by
  subst h
  unfold fldP
  rw [h2]
set_option maxRecDepth 100000 in
set_option maxHeartbeats 4000000 in
theorem hfield_any (l : List UInt8) (w : World) (hl : l.length ≤ 1000000000) (hT : Tabs w) :
    Calls Tryz.prog 55 #[.string (ba l)] w (FldPost w (fldP l)) := by
  have hB0 := (Below.refl w.heap.size w).alloc (Nat.le_refl _) (.cells #[.string ⟨#[]⟩, .string ⟨#[]⟩, .string ⟨#[]⟩, .bool false] 67)
  have HB0 := Lib.hid hB0
  have HT := Lib.hid hT
  have hle := endP_le l
  have HE := Lib.hid (fun W => hend_any l W hl)
  obtain ⟨g, hg⟩ : ∃ g, nudeP (l.take (endP l)) = g := ⟨_, rfl⟩
  have HBA := Lib.hid (fun W => hbare_any (l.take (endP l)) W (by rw [List.length_take]; omega))
  rw [hg] at HBA
  have hgl : g.length ≤ l.length := by rw [← hg]; have := nudeP_len (l.take (endP l)); rw [List.length_take] at this; omega
  have HFN := Lib.hid (fun h => fldP_none hg h)
  have HFS := Lib.hid (fun a b h => fldP_some (a := a) (b := b) hg h)
  have hx : (ba l).extract 0 (endP l) = ba (l.take (endP l)) := by rw [ba_cut, List.drop_zero]
  have HX := Lib.hid hx
  obtain ⟨m, hm⟩ : ∃ m, endP l = m := ⟨_, rfl⟩
  rw [hm] at HX HBA hle
  simp only [hm] at HE
  obtain ⟨f, hf⟩ : ∃ f, l.take m = f := ⟨_, rfl⟩
  rw [hf] at HX HBA
  have hsz : ((ba l).size : Int) = (l.length : Nat) := by rw [ba_size]
  have hmi : (m : Int) ≤ (l.length : Nat) := by omega
  have hm0 : (0 : Int) ≤ (m : Int) := by omega
  have HLL := Lib.hid hl
  have HGL := Lib.hid hgl
  clear hg hx hm hf hT hB0
  cases hcp : cutP 58 g with
  | none =>
    have HF := Lib.hid (HFN.out hcp)
    have hcv : cutV 58 g = (g, [], false) := by unfold cutV; rw [hcp]
    have HCU := Lib.hid (fun W hW => cut_any 58 g W (by have := HLL.out; have := HGL.out; omega) hW)
    unfold CutPost at HCU
    rw [hcv] at HCU
    have HTR := Lib.hid (fun W => htrimR_any g W (by have := HLL.out; have := HGL.out; omega))
    have hgi : (g.length : Int) ≤ 1000000000 := by have := HLL.out; have := HGL.out; omega
    have hgz : ((ba g).size : Int) = (g.length : Nat) := by rw [ba_size]
    clear hcp hcv hl hgl
    go_enter Tryz.func55, Tryz.ntmps55
    go_wp2_with fail
    refine (HE.out _).mono ?_
    rintro e w2 ⟨rfl, rfl⟩
    go_wp2_with fail
    rw [HX.out]
    refine (HBA.out _).mono ?_
    rintro e w2 ⟨rfl, rfl⟩
    go_wp2_with fail
    refine (HCU.out _ (HT.out.below HB0.out)).mono ?_
    rintro e w2 ⟨rfl, nn, rfl⟩
    go_wp2_with fail
    refine (HTR.out _).mono ?_
    rintro e w3 ⟨rfl, hb3⟩
    have hbk : w3.heap[w.heap.size]? = some (.cells #[.string ⟨#[]⟩, .string ⟨#[]⟩, .string ⟨#[]⟩, .bool false] 67) := (hb3.block w.heap.size (by simp)).trans (((below_drewN (Below.refl (w.alloc (.cells #[.string ⟨#[]⟩, .string ⟨#[]⟩, .string ⟨#[]⟩, .bool false] 67)).heap.size (w.alloc (.cells #[.string ⟨#[]⟩, .string ⟨#[]⟩, .string ⟨#[]⟩, .bool false] 67))) nn).block w.heap.size (by simp)).trans (MapKept.heap_alloc w _).1)
    have HB3 := Lib.hid ((below_drewN HB0.out nn).trans (hb3.mono (by simp)))
    have p0 := cells_at hbk 0 (u := .string ⟨#[]⟩) rfl
    have p1 := cells_at hbk 1 (u := .string ⟨#[]⟩) rfl
    have p2 := cells_at hbk 2 (u := .string ⟨#[]⟩) rfl
    have p3 := cells_at hbk 3 (u := .bool false) rfl
    have q0 := cells_free hbk 0
    have q1 := cells_free hbk 1
    have q2 := cells_free hbk 2
    have q3 := cells_free hbk 3
    clear hb3 hbk
    go_wp2
    refine bodyPost_ret (v := .agg #[.string (ba []), .string (ba []), .string (ba l), .bool true]) (by simp [results, Tryz.results55, go_sem, p0, p1, p2, p3]; try rfl) rfl ?_
    refine fld_fin HF.out ?_
    repeat (first | exact HB3.out | refine Below.setCell ?_ (by simp) _)
  | some q =>
    obtain ⟨a, b⟩ := q
    have HF0 := Lib.hid (HFS.out a b hcp)
    have hcv : cutV 58 g = (a, b, true) := by unfold cutV; rw [hcp]
    have hga := (cutP_some hcp).1
    have hal : a.length + 1 ≤ g.length := by rw [hga]; simp
    have HCU := Lib.hid (fun W hW => cut_any 58 g W (by have := HLL.out; have := HGL.out; omega) hW)
    unfold CutPost at HCU
    rw [hcv] at HCU
    have HTR := Lib.hid (fun W => htrimR_any a W (by have := HLL.out; have := HGL.out; omega))
    have htl := trimR_len a
    obtain ⟨t, ht⟩ : ∃ t, Lib.trimRightS a blanksP = t := ⟨_, rfl⟩
    rw [ht] at HTR HF0 htl
    have HRI := Lib.hid (fun W => hright_any t W (by have := HLL.out; have := HGL.out; omega))
    have HB2 := Lib.hid (fun W => hbare_any (l.drop (a.length + 1)) W (by rw [List.length_drop]; have := HLL.out; omega))
    have hx2 : (ba l).extract (a.length + 1) (ba l).size = ba (l.drop (a.length + 1)) := ba_drop l _
    have haz : ((ba a).size : Int) = (a.length : Nat) := by rw [ba_size]
    obtain ⟨A, hA⟩ : ∃ A, a.length = A := ⟨_, rfl⟩
    rw [hA] at hal hx2 HF0 HB2 haz
    obtain ⟨dr, hdr⟩ : ∃ d, l.drop (A + 1) = d := ⟨_, rfl⟩
    rw [hdr] at hx2 HF0 HB2
    have HX2 := Lib.hid hx2
    have hA1 : (A : Int) + 1 ≤ (l.length : Nat) := by have := HGL.out; omega
    have hA2 : (A : Int) ≤ 1000000000 := by have := HLL.out; have := HGL.out; omega
    have hA0 : (0 : Int) ≤ (A : Int) := by omega
    clear hcp hcv hga hal htl ht hx2 hA hdr hl hgl
    cases hok : nameOk t with
    | true =>
      rw [hok] at HRI HF0
      have HF := Lib.hid (show fldP l = ⟨t, nudeP dr, l, false⟩ by rw [HF0.out]; rfl)
      clear hok
      go_enter Tryz.func55, Tryz.ntmps55
      go_wp2_with fail
      refine (HE.out _).mono ?_
      rintro e w2 ⟨rfl, rfl⟩
      go_wp2_with fail
      rw [HX.out]
      refine (HBA.out _).mono ?_
      rintro e w2 ⟨rfl, rfl⟩
      go_wp2_with fail
      refine (HCU.out _ (HT.out.below HB0.out)).mono ?_
      rintro e w2 ⟨rfl, nn, rfl⟩
      go_wp2_with fail
      refine (HTR.out _).mono ?_
      rintro e w3 ⟨rfl, hb3⟩
      have hbk : w3.heap[w.heap.size]? = some (.cells #[.string ⟨#[]⟩, .string ⟨#[]⟩, .string ⟨#[]⟩, .bool false] 67) := (hb3.block w.heap.size (by simp)).trans (((below_drewN (Below.refl (w.alloc (.cells #[.string ⟨#[]⟩, .string ⟨#[]⟩, .string ⟨#[]⟩, .bool false] 67)).heap.size (w.alloc (.cells #[.string ⟨#[]⟩, .string ⟨#[]⟩, .string ⟨#[]⟩, .bool false] 67))) nn).block w.heap.size (by simp)).trans (MapKept.heap_alloc w _).1)
      have HB3 := Lib.hid ((below_drewN HB0.out nn).trans (hb3.mono (by simp)))
      have p0 := cells_at hbk 0 (u := .string ⟨#[]⟩) rfl
      have p1 := cells_at hbk 1 (u := .string ⟨#[]⟩) rfl
      have p2 := cells_at hbk 2 (u := .string ⟨#[]⟩) rfl
      have p3 := cells_at hbk 3 (u := .bool false) rfl
      have q0 := cells_free hbk 0
      have q1 := cells_free hbk 1
      have q2 := cells_free hbk 2
      have q3 := cells_free hbk 3
      clear hb3 hbk
      go_wp2_with fail
      refine (HRI.out _).mono ?_
      rintro e w4 ⟨rfl, hw⟩
      have hw2 := hw.symm
      subst hw2
      clear hw
      go_wp2_with fail
      rw [HX2.out]
      refine (HB2.out _).mono ?_
      rintro e w4 ⟨rfl, hw⟩
      have hw2 := hw.symm
      subst hw2
      clear hw
      go_wp2
      refine bodyPost_ret (v := .agg #[.string (ba t), .string (ba (nudeP dr)), .string (ba l), .bool false]) (by simp [results, Tryz.results55, go_sem, p0, p1, p2, p3]; try rfl) rfl ?_
      refine fld_fin HF.out ?_
      repeat (first | exact HB3.out | refine Below.setCell ?_ (by simp) _)
    | false =>
      rw [hok] at HRI HF0
      have HF := Lib.hid (show fldP l = ⟨[], [], l, true⟩ by rw [HF0.out]; rfl)
      clear hok
      go_enter Tryz.func55, Tryz.ntmps55
      go_wp2_with fail
      refine (HE.out _).mono ?_
      rintro e w2 ⟨rfl, rfl⟩
      go_wp2_with fail
      rw [HX.out]
      refine (HBA.out _).mono ?_
      rintro e w2 ⟨rfl, rfl⟩
      go_wp2_with fail
      refine (HCU.out _ (HT.out.below HB0.out)).mono ?_
      rintro e w2 ⟨rfl, nn, rfl⟩
      go_wp2_with fail
      refine (HTR.out _).mono ?_
      rintro e w3 ⟨rfl, hb3⟩
      have hbk : w3.heap[w.heap.size]? = some (.cells #[.string ⟨#[]⟩, .string ⟨#[]⟩, .string ⟨#[]⟩, .bool false] 67) := (hb3.block w.heap.size (by simp)).trans (((below_drewN (Below.refl (w.alloc (.cells #[.string ⟨#[]⟩, .string ⟨#[]⟩, .string ⟨#[]⟩, .bool false] 67)).heap.size (w.alloc (.cells #[.string ⟨#[]⟩, .string ⟨#[]⟩, .string ⟨#[]⟩, .bool false] 67))) nn).block w.heap.size (by simp)).trans (MapKept.heap_alloc w _).1)
      have HB3 := Lib.hid ((below_drewN HB0.out nn).trans (hb3.mono (by simp)))
      have p0 := cells_at hbk 0 (u := .string ⟨#[]⟩) rfl
      have p1 := cells_at hbk 1 (u := .string ⟨#[]⟩) rfl
      have p2 := cells_at hbk 2 (u := .string ⟨#[]⟩) rfl
      have p3 := cells_at hbk 3 (u := .bool false) rfl
      have q0 := cells_free hbk 0
      have q1 := cells_free hbk 1
      have q2 := cells_free hbk 2
      have q3 := cells_free hbk 3
      clear hb3 hbk
      go_wp2_with fail
      refine (HRI.out _).mono ?_
      rintro e w4 ⟨rfl, hw⟩
      have hw2 := hw.symm
      subst hw2
      clear hw
      go_wp2
      refine bodyPost_ret (v := .agg #[.string (ba []), .string (ba []), .string (ba l), .bool true]) (by simp [results, Tryz.results55, go_sem, p0, p1, p2, p3]; try rfl) rfl ?_
      refine fld_fin HF.out ?_
      repeat (first | exact HB3.out | refine Below.setCell ?_ (by simp) _)
end Go.Proofs.YtnpgnohlcphfnaaGreatDoor
