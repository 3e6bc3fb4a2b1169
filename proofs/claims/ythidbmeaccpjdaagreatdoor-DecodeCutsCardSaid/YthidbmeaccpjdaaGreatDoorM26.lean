/- The package variables as the rows lay them: the tables, the entities; a world that meets the condition. Layer 15, plain: the signs of markup as entities, and the repair of UTF-8. The library: sync.Once.Do, not yet done, its lock free: its parts. The library: sync.Once.Do of a Replacer's buildOnce, the first time. The library: strings.NewReplacer of the four strings that escape a quoted string. Layer 9: strings.NewReplacer of the line ends and blanks (printed by gen_hdr.py). -/
import Derived.Test.YthidbmeaccpjdaaGreatDoorRows
import Derived.Test.YthidbmeaccpjdaaGreatDoorChecked
import Derived.Test.YthidbmeaccpjdaaGreatDoorShelfP
import Derived.ProofKit
import Derived.LaidMore
import Derived.OpenShut
import Derived.Lay
import Derived.Lib.LaidIn
import Derived.PinnedBridge
import Derived.Lib.LaidU8
import Derived.Stop.LaidErr
import Derived.Deep.Slices
import Derived.Deep.DeepHandedRow
import Derived.ChangeMaps5
import Derived.Laws.IdiomMaps
import Derived.WideKeyArgs2
import Derived.StringKeys
import Derived.Test.YthidbmeaccpjdaaGreatDoorProg
import Derived.RowKit
import Derived.Tactics
import Derived.Tactics2
import Derived.Defers
import Derived.Laws.Pointers
import Derived.Laws.LoneSync
import Derived.RegionTactic
import Derived.RegionCalls
import Derived.ChangeAlike
import Derived.Test.YthidbmeaccpjdaaGreatDoorM06
import Derived.Test.YthidbmeaccpjdaaGreatDoorM24
import Derived.Test.YthidbmeaccpjdaaGreatDoorM25
import Derived.Test.YthidbmeaccpjdaaGreatDoorM11
import Derived.Test.YthidbmeaccpjdaaGreatDoorM02
import Derived.Test.YthidbmeaccpjdaaGreatDoorM01
section
namespace Go.Proofs.YthidbmeaccpjdaaGreatDoor
open Go.ChangeMaps
open Go Go.ChangeShapes Go.WideShapes Go.ChangeAt Go.RowKit Go.Deep Go.Lib
set_option linter.unusedVariables false
theorem own_ : ownKnob Tryz.prog.godebug = none := by kernel_rfl
def laid15 : List (String × DataW Unit) := Rows.decodeCutsRow.laid
theorem laid15_plain (w : World) : laidMetH Tryz.prog laid15 w = laidMet Tryz.prog laid15 w := MakeChecks.laidMetH_plain _ _ _ (by kernel_rfl)
theorem u8x : Go.Proofs.U8Extra Tryz.prog Tryz.lays260_ren := ⟨by kernel_rfl, by kernel_rfl, by kernel_rfl, by kernel_rfl, by kernel_rfl, by kernel_rfl, by kernel_rfl⟩
theorem acc_eq : (Rows.laid_unicode_utf8_acceptRanges : DataW Unit) = acceptData := by kernel_rfl
theorem mem_first : ("unicode/utf8.first", firstData) ∈ laid15 := by
 rw [← Pinned.utf8First_eq]
 exact List.mem_of_getElem? (i := 7) (by kernel_rfl)
theorem mem_acc : ("unicode/utf8.acceptRanges", acceptData) ∈ laid15 := by
 rw [← acc_eq]
 exact List.mem_of_getElem? (i := 3) (by kernel_rfl)
theorem gER : Tryz.prog.globalNamed "strconv.ErrRange" = some 6 := by kernel_rfl
theorem gERType : (Tryz.prog.globals[(6 : Nat)]?).map (·.type) = some 68 := by kernel_rfl
theorem cells_es : Tryz.prog.cellsOf 294 = 1 := by kernel_rfl
theorem cells_st : Tryz.prog.cellsOf 9 = 1 := by kernel_rfl
theorem star_es : "*" ++ "errors.errorString" = "*errors.errorString" := by decide
theorem row_es (u : TypeId) (h : Tryz.prog.typeName? 3 u = some "*errors.errorString") : u = 292 :=
 typeName_ptr_named (nm := "errors.errorString") (by rw [star_es]; kernel_rfl) (by kernel_rfl) (by decide) u (by rw [star_es]; exact h)
theorem tabs_of {W : World} (hL : laidMetH Tryz.prog laid15 W) (hS : W.ShapedOpen Tryz.prog) : Tabs W := by
 rw [laid15_plain] at hL
 have hu : Lib.Utf8Tabs 1 2 W := utf8Tabs_of_reads Tryz.lays260 u8x (laidMet.reads hL mem_first) (laidMet.reads hL mem_acc)
 have hm : ∃ m, W.cell? ⟨3, 0, none⟩ = some (.int .i64 m) := Go.Proofs.cell_of_shapedOpen_int (zero := #[.int .i64 0]) (t := 3) hS (of_decide_eq_true (by kernel_rfl)) (by kernel_rfl) rfl (by kernel_rfl) (by kernel_rfl) Tryz.underlying3
 have hE := hL.tail.tail.tail.tail
 obtain ⟨a1, s1, hv1, -, -, -⟩ := laid_sentinel hE gER gERType Tryz.underlying68 row_es Tryz.underlying292 Tryz.underlying294 rfl rfl Tryz.underlying9 cells_es cells_st
 have h0 : W.cell? ⟨6, 0, none⟩ = some (.iface 292 (.pointer (some a1))) := by have h0 := World.var?_cell gER hv1 0; simpa using h0
 obtain ⟨m, hm2⟩ := hm
 refine ⟨hu, ⟨_, h0, .inr ⟨_, _, rfl⟩⟩, ⟨m, hm2⟩, ?_, ?_, ?_, ?_⟩
 ·exact World.block_lt_of_cell? W _ (hu.1 0 (by decide))
 ·exact World.block_lt_of_cell? W _ (hu.2 0 (by decide)).1
 ·exact World.block_lt_of_cell? W _ hm2
 ·exact World.block_lt_of_cell? W _ h0
theorem gEnt : Tryz.prog.globalNamed "pouch/decode.entities" = some 0 := by kernel_rfl
theorem tEnt : (Tryz.prog.globals[(0 : Nat)]?).map (·.type) = some 114 := by kernel_rfl
def entD : List (List UInt8 × Int) := [([97, 109, 112], 38), ([97, 112, 111, 115], 39), ([103, 116], 62), ([108, 116], 60), ([110, 98, 115, 112], 32), ([113, 117, 111, 116], 34)]
theorem ent_datum {H : Type} : (Rows.laid_pouch_decode_entities : DataW H) = .map (entD.map fun q => (.string q.1, .lit (.int .i32 q.2))) := rfl
theorem ent_find (name : List UInt8) : entR name = (entD.find? fun q => q.1 == name).map (·.2) := by
 unfold entR entNames entD
 by_cases h0 : name = [97, 109, 112]
 ·subst h0; rfl
 by_cases h1 : name = [97, 112, 111, 115]
 ·subst h1; rfl
 by_cases h2 : name = [103, 116]
 ·subst h2; rfl
 by_cases h3 : name = [108, 116]
 ·subst h3; rfl
 by_cases h4 : name = [110, 98, 115, 112]
 ·subst h4; rfl
 by_cases h5 : name = [113, 117, 111, 116]
 ·subst h5; rfl
 have e : ∀ l : List UInt8, name ≠ l → ¬ l = name := fun l h e => h e.symm
 simp [e _ h0, e _ h1, e _ h2, e _ h3, e _ h4, e _ h5]
theorem at_find {H : Type} (L : List (List UInt8 × Int)) (name : List UInt8) (z : DataW H) : (DataW.map (L.map fun q => ((Lit.string q.1 : Lit), (DataW.lit (.int .i32 q.2) : DataW H)))).atKey (.string name) z = match (L.find? fun q => q.1 == name).map (·.2) with
  | some v => .lit (.int .i32 v)
  | none => z := by
 unfold DataW.atKey
 induction L with
 | nil => rfl
 | cons q r ih =>
  simp only [List.map_cons, List.find?_cons]
  have e : (Lit.string q.1).sameKey (.string name) = (q.1 == name) := rfl
  rw [e]
  cases q.1 == name with
  | true => rfl
  | false => exact ih
set_option maxRecDepth 100000 in
theorem ent_of {W : World} (hL : laidMetH Tryz.prog laid15 W) : EntM W := by
 rw [laid15_plain] at hL
 have h6 := hL.tail.tail.tail.tail.tail.tail
 obtain ⟨ps, ⟨g0, t0, cs0, f0, p0, q0, hg0, ht0, hv0, hd0, _⟩, _, _⟩ := h6
 obtain rfl := Option.some.inj (gEnt.symm.trans hg0)
 obtain rfl := Option.some.inj (tEnt.symm.trans ht0)
 rcases Go.WideElems.open_map Tryz.underlying114 hd0 with ⟨_, hx⟩ | ⟨bm, es, clock, m, rfl, hcs, hb, _, F, hx⟩
 ·rw [ent_datum] at hx
  simp at hx
 ·simp only [Prod.mk.injEq] at hx
  have hcell : W.cell? ⟨0, 0, none⟩ = some (.map (some bm)) := by
   have := World.var?_cell hg0 hv0 0
   rw [Array.eq_one_of_toList hcs] at this
   simpa using this
  refine ⟨bm, hcell, World.block_lt_of_cell? W _ hcell, fun w' hb' name hn => ?_⟩
  have hbm : w'.heap[bm]? = some (.map es clock) := (hb'.block bm (heap_lt hb)).trans hb
  have zero : (zeroValue 21).run Tryz.prog w' = .ok (.int .i32 0) w' := by kernel_rfl
  have hk : keyOf Tryz.prog 9 (.string (ba name)) = some (.string name) := by
   have h := Go.WideMaps.keyOf_string_mk (s := ba name) Tryz.underlying9 (by rw [ba_size]; unfold maxLen; omega)
   rw [ba_list] at h
   exact h
  have hD := at_find (H := Unit) entD name
  rw [← ent_find] at hD
  rw [ent_datum] at hx
  rcases Go.WideElems.fit_lookup_ok (w := w') (Go.WideMaps.string_law Tryz.underlying9) Tryz.underlying114 zero hbm F hk with ⟨hrun, hat⟩ | ⟨v, y, hrun, hRv, hat, _⟩
  ·rw [hrun]
   have h1 := hat (.lit (.bool true))
   rw [← hx.1, hD] at h1
   cases he : entR name with
   | none => rfl
   | some x => rw [he] at h1; cases h1
  ·obtain ⟨r, rfl, rfl, _⟩ := Go.WideElems.elemAt_int Tryz.underlying21 hRv
   rw [hrun]
   have h1 := hat .nil
   rw [← hx.1, hD] at h1
   cases he : entR name with
   | none => rw [he] at h1; cases h1
   | some x =>
    rw [he] at h1
    injection h1 with h1
    injection h1 with _ h1
    subst h1
    rfl
noncomputable def world0 (os : Os) : World := { World.holding Tryz.prog os ⟨#[], #[], []⟩ with heap := ((World.holding Tryz.prog os ⟨#[], #[], []⟩).heap.setIfInBounds 0 (.cells #[.map (some (World.holding Tryz.prog os ⟨#[], #[], []⟩).heap.size)] 114 (0, 0))).push (.map #[⟨.string ⟨#[97, 109, 112]⟩, .int .i32 38, 0⟩, ⟨.string ⟨#[97, 112, 111, 115]⟩, .int .i32 39, 1⟩, ⟨.string ⟨#[103, 116]⟩, .int .i32 62, 2⟩, ⟨.string ⟨#[108, 116]⟩, .int .i32 60, 3⟩, ⟨.string ⟨#[110, 98, 115, 112]⟩, .int .i32 32, 4⟩, ⟨.string ⟨#[113, 117, 111, 116]⟩, .int .i32 34, 5⟩] 6) }
def great15 : List String := ["math/bits.deBruijn32tab", "math/bits.deBruijn64tab", "internal/strconv.uint64pow10", "unicode/utf8.acceptRanges", "strconv.ErrRange", "strconv.ErrSyntax", "unicode/utf8.first"]
noncomputable def world15 (os : Os) : World := (world0 os).layVars Tryz.prog (laid15.filter fun x => great15.contains x.1)
theorem world15_os (os : Os) : (world15 os).os = os := World.layVars_os _ _ _
theorem met15 (os : Os) (args : Array Value) : laidMetH Tryz.prog laid15 ((world15 os).forCall (fun _ _ => 0) ⟨#[], args, []⟩).memory := by
 rw [laid15_plain]
 refine laidMet_layVars (w0 := world0 os) great15 [0, 15] (by simp [World.memory, World.forCall, Input.heap, world15]) (by kernel_rfl) (by kernel_rfl) ?_
 exact LaidIn.of_run [0, 15] 8 (by kernel_rfl) (by kernel_rfl) (by kernel_rfl) (by kernel_rfl)
end Go.Proofs.YthidbmeaccpjdaaGreatDoor
end
section
namespace Go.Proofs.YthidbmeaccpjdaaGreatDoor
open Go.RowKit
set_option linter.unusedVariables false
theorem dec_same {n n' b0 b1 b2 b3 c1 c2 c3 : Nat} (h1 : (1 < n ∧ b1 / 64 = 2) ↔ (1 < n' ∧ c1 / 64 = 2)) (e1 : 1 < n ∧ b1 / 64 = 2 → b1 = c1) (h2 : 1 < n ∧ b1 / 64 = 2 → ((2 < n ∧ b2 / 64 = 2) ↔ (2 < n' ∧ c2 / 64 = 2)))
  (e2 : (1 < n ∧ b1 / 64 = 2) ∧ (2 < n ∧ b2 / 64 = 2) → b2 = c2) (h3 : (1 < n ∧ b1 / 64 = 2) ∧ (2 < n ∧ b2 / 64 = 2) → ((3 < n ∧ b3 / 64 = 2) ↔ (3 < n' ∧ c3 / 64 = 2))) (e3 : (1 < n ∧ b1 / 64 = 2) ∧ (2 < n ∧ b2 / 64 = 2) ∧ (3 < n ∧ b3 / 64 = 2) → b3 = c3) :
  Lib.decodeN n b0 b1 b2 b3 = Lib.decodeN n' b0 c1 c2 c3 := by
 unfold Lib.decodeN
 by_cases k1 : 1 < n ∧ b1 / 64 = 2
 ·have m1 := h1.1 k1
  have q1 := e1 k1
  subst q1
  by_cases k2 : 2 < n ∧ b2 / 64 = 2
  ·have m2 := (h2 k1).1 k2
   have q2 := e2 ⟨k1, k2⟩
   subst q2
   by_cases k3 : 3 < n ∧ b3 / 64 = 2
   ·have m3 := (h3 ⟨k1, k2⟩).1 k3
    have q3 := e3 ⟨k1, k2, k3⟩
    subst q3
    simp only [k1, m1, k2, m2, k3, m3, and_self, and_true]
   ·have m3 : ¬ (3 < n' ∧ c3 / 64 = 2) := fun h => k3 ((h3 ⟨k1, k2⟩).2 h)
    simp only [k1, m1, k2, m2, k3, m3, and_self, and_true, and_false, if_false]
  ·have m2 : ¬ (2 < n' ∧ c2 / 64 = 2) := fun h => k2 ((h2 k1).2 h)
   simp only [k1, m1, k2, m2, and_self, and_true, and_false, false_and, if_false]
 ·have m1 : ¬ (1 < n' ∧ c1 / 64 = 2) := fun h => k1 (h1.2 h)
  simp only [k1, m1, and_false, false_and, if_false]
theorem markP_head (r : List UInt8) : ((0 < r.length ∧ bt r 0 / 64 = 2) ↔ (0 < (markP r).length ∧ bt (markP r) 0 / 64 = 2)) ∧ (0 < r.length ∧ bt r 0 / 64 = 2 → bt r 0 = bt (markP r) 0 ∧ (markP r).drop 1 = markP (r.drop 1)) := by
 cases r with
 | nil => exact ⟨⟨fun h => h, fun h => h⟩, fun h => absurd h.1 (Nat.lt_irrefl _)⟩
 | cons c t =>
  by_cases h1 : c = 38
  ·subst h1
   have e : markP (38 :: t) = [38, 97, 109, 112, 59] ++ markP t := rfl
   rw [e]
   refine ⟨⟨fun h => absurd h.2 ?_, fun h => absurd h.2 ?_⟩, fun h => absurd h.2 ?_⟩
   ·show ¬ (38 : Nat) / 64 = 2; decide
   ·show ¬ (38 : Nat) / 64 = 2; decide
   ·show ¬ (38 : Nat) / 64 = 2; decide
  ·by_cases h2 : c = 60
   ·subst h2
    have e : markP (60 :: t) = [38, 108, 116, 59] ++ markP t := rfl
    rw [e]
    refine ⟨⟨fun h => absurd h.2 ?_, fun h => absurd h.2 ?_⟩, fun h => absurd h.2 ?_⟩
    ·show ¬ (60 : Nat) / 64 = 2; decide
    ·show ¬ (38 : Nat) / 64 = 2; decide
    ·show ¬ (60 : Nat) / 64 = 2; decide
   ·have e : markP (c :: t) = c :: markP t := by
     show (if c = 38 then _ else if c = 60 then _ else [c]) ++ markP t = _
     rw [if_neg h1, if_neg h2]
     rfl
    rw [e]
    refine ⟨⟨fun h => ⟨Nat.succ_pos _, h.2⟩, fun h => ⟨Nat.succ_pos _, h.2⟩⟩, fun _ => ⟨rfl, rfl⟩⟩
theorem bt_cons (c : UInt8) (r : List UInt8) (i : Nat) : bt (c :: r) (i + 1) = bt r i := rfl
theorem bt_drop (r : List UInt8) (i : Nat) : bt (r.drop 1) i = bt r (i + 1) := by
 cases r with
 | nil => rfl
 | cons c t => rfl
theorem uN_mark (c : UInt8) (r : List UInt8) : uN (c :: markP r) = uN (c :: r) := by
 unfold uN
 simp only [bt_cons, List.length_cons]
 have h1 := markP_head r
 have h2 := markP_head (r.drop 1)
 have h3 := markP_head ((r.drop 1).drop 1)
 rw [List.length_drop] at h2
 rw [List.length_drop, List.length_drop] at h3
 simp only [bt_drop, Nat.zero_add, Nat.reduceAdd] at h2 h3
 have d1 : ∀ h : 0 < r.length ∧ bt r 0 / 64 = 2, (markP (r.drop 1)).length = (markP r).length - 1 ∧ bt (markP (r.drop 1)) 0 = bt (markP r) 1 := fun h => by
  rw [← (h1.2 h).2, List.length_drop, bt_drop]
  exact ⟨rfl, rfl⟩
 refine (dec_same (b0 := bt (c :: r) 0) ?_ ?_ ?_ ?_ ?_ ?_).symm
 ·have := h1.1
  constructor
  ·intro h; have := this.1 ⟨by omega, h.2⟩; exact ⟨by omega, this.2⟩
  ·intro h; have := this.2 ⟨by omega, h.2⟩; exact ⟨by omega, this.2⟩
 ·intro h
  exact (h1.2 ⟨by omega, h.2⟩).1
 ·intro h
  have d := d1 ⟨by omega, h.2⟩
  rw [d.1, d.2] at h2
  have := h2.1
  constructor
  ·intro k; have := this.1 ⟨by omega, k.2⟩; exact ⟨by omega, this.2⟩
  ·intro k; have := this.2 ⟨by omega, k.2⟩; exact ⟨by omega, this.2⟩
 ·intro h
  have d := d1 ⟨by omega, h.1.2⟩
  rw [d.1, d.2] at h2
  exact (h2.2 ⟨by omega, h.2.2⟩).1
 ·intro h
  have d := d1 ⟨by omega, h.1.2⟩
  have g := (h1.2 ⟨by omega, h.1.2⟩).2
  have g2 := (h2.2 ⟨by omega, h.2.2⟩).2
  have e : markP ((r.drop 1).drop 1) = ((markP r).drop 1).drop 1 := by rw [g, ← g2]
  rw [e, List.length_drop, List.length_drop, bt_drop, bt_drop] at h3
  have := h3.1
  constructor
  ·intro k; have := this.1 ⟨by omega, k.2⟩; exact ⟨by omega, this.2⟩
  ·intro k; have := this.2 ⟨by omega, k.2⟩; exact ⟨by omega, this.2⟩
 ·intro h
  have g := (h1.2 ⟨by omega, h.1.2⟩).2
  have g2 := (h2.2 ⟨by omega, h.2.1.2⟩).2
  have e : markP ((r.drop 1).drop 1) = ((markP r).drop 1).drop 1 := by rw [g, ← g2]
  rw [e, List.length_drop, List.length_drop, bt_drop, bt_drop] at h3
  exact (h3.2 ⟨by omega, h.2.2.2⟩).1
theorem repairP_cons (c : UInt8) (r : List UInt8) : repairP (c :: r) = Lib.encodeRune (uN (c :: r)).1 ++ repairP ((c :: r).drop (uN (c :: r)).2) := by
 have hp := uN_pos (c :: r) (by simp)
 have key : ∀ (f g : Nat) (l : List UInt8), l.length ≤ f → l.length ≤ g → repairF f l = repairF g l := by
  intro f
  induction f with
  | zero =>
   intro g l hf hg
   have : l = [] := List.eq_nil_of_length_eq_zero (by omega)
   subst this
   cases g <;> rfl
  | succ f ih =>
   intro g l hf hg
   cases g with
   | zero =>
    have : l = [] := List.eq_nil_of_length_eq_zero (by omega)
    subst this
    rfl
   | succ g =>
    unfold repairF
    by_cases hl : l = []
    ·rw [if_pos hl, if_pos hl]
    ·have := uN_pos l hl
     rw [if_neg hl, if_neg hl, ih g (l.drop (uN l).2) (by rw [List.length_drop]; omega) (by rw [List.length_drop]; omega)]
 unfold repairP
 rw [List.length_cons]
 conv => lhs; unfold repairF
 rw [if_neg (by simp), key r.length _ _ (by rw [List.length_drop, List.length_cons]; omega) (Nat.le_refl _)]
theorem repair_ascii {c : UInt8} (h : c < 128) (r : List UInt8) : repairP (c :: r) = c :: repairP r := by
 have h0 : c.toNat < 128 := h
 have e : uN (c :: r) = (c.toNat, 1) := by
  unfold uN Lib.decodeN
  have : bt (c :: r) 0 = c.toNat := rfl
  rw [this, if_pos h0]
 rw [repairP_cons, e]
 show Lib.encodeRune (c.toNat : Nat) ++ repairP r = _
 have e2 : Lib.encodeRune ((c.toNat : Nat) : Int) = [c] := by
  have := (by decide +kernel : ∀ n : Fin 128, Lib.encodeRune ((n.val : Nat) : Int) = [UInt8.ofNat n.val]) ⟨c.toNat, h0⟩
  simpa using this
 rw [e2]
 rfl
theorem markP_plain {a : List UInt8} (h : ∀ c ∈ a, c ≠ 38 ∧ c ≠ 60) (r : List UInt8) : markP (a ++ r) = a ++ markP r := by
 induction a with
 | nil => rfl
 | cons c t ih =>
  have h1 := h c (List.mem_cons_self ..)
  rw [List.cons_append, List.cons_append, ← ih fun x hx => h x (List.mem_cons_of_mem _ hx)]
  show (if c = 38 then _ else if c = 60 then _ else [c]) ++ markP (t ++ r) = _
  rw [if_neg h1.1, if_neg h1.2]
  rfl
theorem enc_high {n : Nat} (h : 128 ≤ n) : ∀ c ∈ Lib.encodeRune (n : Int), 128 ≤ c.toNat := by
 intro c hc
 unfold Lib.encodeRune at hc
 obtain ⟨x, hx, rfl⟩ := List.mem_map.1 hc
 have hb : 128 ≤ x ∧ x ≤ 255 := by
  unfold Lib.encodeRuneZ at hx
  split at hx
  ·omega
  ·split at hx
   ·simp at hx; omega
   ·split at hx
    ·simp at hx; omega
    ·split at hx
     ·simp at hx; omega
     ·simp at hx; omega
 show 128 ≤ (UInt8.ofNat x.toNat).toNat
 rw [UInt8.toNat_ofNat']
 omega
theorem repair_mark : ∀ (n : Nat) (l : List UInt8), l.length ≤ n → repairP (markP l) = markP (repairP l)
 | _, [], _ => rfl
 | 0, c :: r, h => by simp at h
 | n + 1, c :: r, h => by
  have hr : r.length ≤ n := by simp at h; omega
  by_cases h1 : c = 38
  ·subst h1
   show repairP (38 :: 97 :: 109 :: 112 :: 59 :: markP r) = _
   rw [repair_ascii (by decide), repair_ascii (by decide), repair_ascii (by decide), repair_ascii (by decide), repair_ascii (by decide), repair_ascii (c := 38) (by decide), repair_mark n r hr]
   rfl
  ·by_cases h2 : c = 60
   ·subst h2
    show repairP (38 :: 108 :: 116 :: 59 :: markP r) = _
    rw [repair_ascii (by decide), repair_ascii (by decide), repair_ascii (by decide), repair_ascii (by decide), repair_ascii (c := 60) (by decide), repair_mark n r hr]
    rfl
   ·have e : markP (c :: r) = c :: markP r := markP_plain (a := [c]) (by simp [h1, h2]) r
    rw [e]
    by_cases h3 : c.toNat < 128
    ·rw [repair_ascii h3, repair_ascii h3, repair_mark n r hr]
     exact (markP_plain (a := [c]) (by simp [h1, h2]) _).symm
    ·have hp := uN_pos (c :: r) (by simp)
     have hv : 128 ≤ (uN (c :: r)).1 := by
      have hb : bt (c :: r) 0 = c.toNat := rfl
      rcases uN_cases (c :: r) (by simp) with q | q | q | q
      ·rcases q.2 with q | q
       ·rw [hb] at q; omega
       ·omega
      ·omega
      ·omega
      ·omega
     have hd : (c :: markP r).drop (uN (c :: r)).2 = markP ((c :: r).drop (uN (c :: r)).2) := by
      have k1 := markP_head r
      have k2 := markP_head (r.drop 1)
      have k3 := markP_head ((r.drop 1).drop 1)
      rw [List.length_drop] at k2
      rw [List.length_drop, List.length_drop] at k3
      simp only [bt_drop, Nat.zero_add, Nat.reduceAdd] at k2 k3
      have b1 : bt (c :: r) 1 = bt r 0 := rfl
      have b2 : bt (c :: r) 2 = bt r 1 := rfl
      have b3 : bt (c :: r) 3 = bt r 2 := rfl
      rcases uN_cases (c :: r) (by simp) with q | q | q | q
      ·rw [q.1]; rfl
      ·rw [q.1]
       rw [b1, List.length_cons] at q
       exact (k1.2 ⟨by omega, by omega⟩).2
      ·rw [q.1]
       rw [b1, b2, List.length_cons] at q
       show (markP r).drop 2 = markP (r.drop 2)
       rw [show (2 : Nat) = 1 + 1 from rfl, ← List.drop_drop, (k1.2 ⟨by omega, by omega⟩).2, (k2.2 ⟨by omega, by omega⟩).2, List.drop_drop]
      ·rw [q.1]
       rw [b1, b2, b3, List.length_cons] at q
       show (markP r).drop 3 = markP (r.drop 3)
       rw [show (3 : Nat) = (1 + 1) + 1 from rfl, ← List.drop_drop, ← List.drop_drop, (k1.2 ⟨by omega, by omega⟩).2, (k2.2 ⟨by omega, by omega⟩).2, (k3.2 ⟨by omega, by omega⟩).2, List.drop_drop, List.drop_drop]
     rw [repairP_cons, uN_mark, hd, repair_mark n _ (by rw [List.length_drop]; omega), repairP_cons, markP_plain]
     intro x hx
     have := enc_high hv x hx
     exact ⟨fun e => by rw [e] at this; exact absurd this (by decide), fun e => by rw [e] at this; exact absurd this (by decide)⟩
end Go.Proofs.YthidbmeaccpjdaaGreatDoor
end
