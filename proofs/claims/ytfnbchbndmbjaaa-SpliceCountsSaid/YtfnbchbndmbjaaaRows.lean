/-
  No cell of these rows narrows 'for every input' (looked for: loops, veiled, ifaces, maps, wideKeys, modest, calm, conditions, laid).
  DERIVED. THE GIVEN ROWS OF THIS SEAT. 6 by the template 'for every input the law returns true; each argument reads behind the call as it read before'; 0 by the template 'total and deterministic' (their statements: YtfnbchbndmbjaaaTotals.lean).
  GIVEN WITH THE SEED: the statements are not yours to turn. If you find one false, say at which input.
  Laid BY PROGRAM, IN A SANDBOX (cutbox-rows.mjs): the forced cells as the released guide's own fill.sh prints them over the translation be87345179eef1f4… (all of the seat's roots in one cut). By AI agents, Wed Nov 11 2026. No macro, syntax, notation, axiom, sorry.
-/
import Derived.Test.YtfnbchbndmbjaaaChecked
import GoSem.Claim
import GoSem.ClaimJoined
import GoSem.ClaimMapViews
import Derived.JoinedTies
import Derived.KernelRfl
namespace Go.Proofs.Ytfnbchbndmbjaaa
/- THE CELL 'sum', in the pinned program and in every row, IS THE sha256 OF THE DUMP (.gsa) THAT YtfnbchbndmbjaaaProg.lean LOADS. Nothing in Lean hashes anything: it is a label: what it is worth is what the hold of that sum in a sandbox is worth. -/
noncomputable def Try.pinned : Pinned := { name := "ytfnbchbndmbjaaa", sum := "be87345179eef1f40b97487903ed57253f2f06d0572741efe8583971bc0df34d", checked := Try.checked }
namespace Rows
def none {H : Type} : Left H := { results := [], args := [] }

/-- 'pouchlaw44.SpliceTells': WHATEVER THE INPUT: true; the input reads as it did. -/
def spliceTellsSpec : ChangeSpec := { name := "spliceTells", fn := fun _ => fun
  | [d1, d2] => { results := [.lit (.bool true)], args := [d1, d2] }
  | _ => none }
def spliceTellsRow : OpenClaim := { program := "ytfnbchbndmbjaaa", sum := "be87345179eef1f40b97487903ed57253f2f06d0572741efe8583971bc0df34d", func := "pouch/pouchlaw44.SpliceTells", spec := "spliceTells", unfollowed := true, recurses := true, apart := false }
def SpliceTellsSaid : Prop := spliceTellsRow.holds Try.pinned (OpenSpec.ofChange spliceTellsSpec)

/-- ITS FALSE NEIGHBOUR: 'it returns false'. Refute it at one input. -/
def spliceTellsWrong : ChangeSpec := { name := "spliceTells", fn := fun _ => fun
  | [d1, d2] => { results := [.lit (.bool false)], args := [d1, d2] }
  | _ => none }
def SpliceTellsWrongFalsely : Prop := spliceTellsRow.holds Try.pinned (OpenSpec.ofChange spliceTellsWrong)

/-- 'pouchlaw44.SpliceApplies': WHATEVER THE INPUT: true; the input reads as it did. -/
def spliceAppliesSpec : ChangeSpec := { name := "spliceApplies", fn := fun _ => fun
  | [d1, d2] => { results := [.lit (.bool true)], args := [d1, d2] }
  | _ => none }
def spliceAppliesRow : OpenClaim := { program := "ytfnbchbndmbjaaa", sum := "be87345179eef1f40b97487903ed57253f2f06d0572741efe8583971bc0df34d", func := "pouch/pouchlaw44.SpliceApplies", spec := "spliceApplies", unfollowed := true, recurses := true, apart := false }
def SpliceAppliesSaid : Prop := spliceAppliesRow.holds Try.pinned (OpenSpec.ofChange spliceAppliesSpec)

/-- ITS FALSE NEIGHBOUR: 'it returns false'. Refute it at one input. -/
def spliceAppliesWrong : ChangeSpec := { name := "spliceApplies", fn := fun _ => fun
  | [d1, d2] => { results := [.lit (.bool false)], args := [d1, d2] }
  | _ => none }
def SpliceAppliesWrongFalsely : Prop := spliceAppliesRow.holds Try.pinned (OpenSpec.ofChange spliceAppliesWrong)

/-- 'pouchlaw44.SpliceBack': WHATEVER THE INPUT: true; the input reads as it did. -/
def spliceBackSpec : ChangeSpec := { name := "spliceBack", fn := fun _ => fun
  | [d1, d2] => { results := [.lit (.bool true)], args := [d1, d2] }
  | _ => none }
def spliceBackRow : OpenClaim := { program := "ytfnbchbndmbjaaa", sum := "be87345179eef1f40b97487903ed57253f2f06d0572741efe8583971bc0df34d", func := "pouch/pouchlaw44.SpliceBack", spec := "spliceBack", unfollowed := true, recurses := true, apart := false }
def SpliceBackSaid : Prop := spliceBackRow.holds Try.pinned (OpenSpec.ofChange spliceBackSpec)

/-- ITS FALSE NEIGHBOUR: 'it returns false'. Refute it at one input. -/
def spliceBackWrong : ChangeSpec := { name := "spliceBack", fn := fun _ => fun
  | [d1, d2] => { results := [.lit (.bool false)], args := [d1, d2] }
  | _ => none }
def SpliceBackWrongFalsely : Prop := spliceBackRow.holds Try.pinned (OpenSpec.ofChange spliceBackWrong)

/-- 'pouchlaw44.SpliceLeast': WHATEVER THE INPUT: true; the input reads as it did. -/
def spliceLeastSpec : ChangeSpec := { name := "spliceLeast", fn := fun _ => fun
  | [d1, d2, d3] => { results := [.lit (.bool true)], args := [d1, d2, d3] }
  | _ => none }
def spliceLeastRow : OpenClaim := { program := "ytfnbchbndmbjaaa", sum := "be87345179eef1f40b97487903ed57253f2f06d0572741efe8583971bc0df34d", func := "pouch/pouchlaw44.SpliceLeast", spec := "spliceLeast", unfollowed := true, recurses := true, apart := false }
def SpliceLeastSaid : Prop := spliceLeastRow.holds Try.pinned (OpenSpec.ofChange spliceLeastSpec)

/-- ITS FALSE NEIGHBOUR: 'it returns false'. Refute it at one input. -/
def spliceLeastWrong : ChangeSpec := { name := "spliceLeast", fn := fun _ => fun
  | [d1, d2, d3] => { results := [.lit (.bool false)], args := [d1, d2, d3] }
  | _ => none }
def SpliceLeastWrongFalsely : Prop := spliceLeastRow.holds Try.pinned (OpenSpec.ofChange spliceLeastWrong)

/-- 'pouchlaw44.SpliceCounts': WHATEVER THE INPUT: true; the input reads as it did. -/
def spliceCountsSpec : ChangeSpec := { name := "spliceCounts", fn := fun _ => fun
  | [d1, d2] => { results := [.lit (.bool true)], args := [d1, d2] }
  | _ => none }
def spliceCountsRow : OpenClaim := { program := "ytfnbchbndmbjaaa", sum := "be87345179eef1f40b97487903ed57253f2f06d0572741efe8583971bc0df34d", func := "pouch/pouchlaw44.SpliceCounts", spec := "spliceCounts", unfollowed := true, recurses := true, apart := false }
def SpliceCountsSaid : Prop := spliceCountsRow.holds Try.pinned (OpenSpec.ofChange spliceCountsSpec)

/-- ITS FALSE NEIGHBOUR: 'it returns false'. Refute it at one input. -/
def spliceCountsWrong : ChangeSpec := { name := "spliceCounts", fn := fun _ => fun
  | [d1, d2] => { results := [.lit (.bool false)], args := [d1, d2] }
  | _ => none }
def SpliceCountsWrongFalsely : Prop := spliceCountsRow.holds Try.pinned (OpenSpec.ofChange spliceCountsWrong)

/-- 'pouchlaw44.SpliceRows': WHATEVER THE INPUT: true; the input reads as it did. -/
def spliceRowsSpec : ChangeSpec := { name := "spliceRows", fn := fun _ => fun
  | [d1, d2, d3] => { results := [.lit (.bool true)], args := [d1, d2, d3] }
  | _ => none }
def spliceRowsRow : OpenClaim := { program := "ytfnbchbndmbjaaa", sum := "be87345179eef1f40b97487903ed57253f2f06d0572741efe8583971bc0df34d", func := "pouch/pouchlaw44.SpliceRows", spec := "spliceRows", unfollowed := true, recurses := true, apart := false }
def SpliceRowsSaid : Prop := spliceRowsRow.holds Try.pinned (OpenSpec.ofChange spliceRowsSpec)

/-- ITS FALSE NEIGHBOUR: 'it returns false'. Refute it at one input. -/
def spliceRowsWrong : ChangeSpec := { name := "spliceRows", fn := fun _ => fun
  | [d1, d2, d3] => { results := [.lit (.bool false)], args := [d1, d2, d3] }
  | _ => none }
def SpliceRowsWrongFalsely : Prop := spliceRowsRow.holds Try.pinned (OpenSpec.ofChange spliceRowsWrong)

/- THE SECOND FORM. 'bulk': how many values and letters a reading holds, each counted each time it is reached (what is shared counts as often as it is met; a slice's spare places count too). A statement '..UptoSaid' is the law's where the arguments, and the package variables that the reading takes, are together of bulk at most 1048576: NARROWER than '..Said'. Prove '..Said' where nothing that the law and all that it calls make is longer than what came in: it says more and counts as full. Else prove '..UptoSaid'. A law counts once. -/
mutual
def uptoBulk {H : Type} : DataW H → Nat
  | .lit (.string bytes) => bytes.length + 1
  | .lit _ => 1
  | .nil => 1
  | .ptr d => uptoBulk d + 1
  | .slice elems spare => uptoBulkAll elems + uptoBulkAll spare + 1
  | .agg parts => uptoBulkAll parts + 1
  | .iface _ d => uptoBulk d + 1
  | .map entries => uptoBulkEntries entries + 1
  | .held _ => 1
def uptoBulkAll {H : Type} : List (DataW H) → Nat
  | [] => 0
  | d :: r => uptoBulk d + uptoBulkAll r
def uptoBulkEntries {H : Type} : List (Lit × DataW H) → Nat
  | [] => 0
  | x :: r => uptoBulkEntry x + uptoBulkEntries r
def uptoBulkEntry {H : Type} : Lit × DataW H → Nat
  | (.string bytes, d) => bytes.length + uptoBulk d + 1
  | (_, d) => uptoBulk d + 1
 end
def uptoSmall : (H : Type) → List (DataW H) → Bool := fun _ ds => decide (uptoBulkAll ds ≤ 1048576)
def OpenSpec.upto (s : _root_.Go.ChangeSpec) : _root_.Go.OpenSpec := { _root_.Go.OpenSpec.ofChange s with cond := some uptoSmall }

/-- 'pouchlaw44.SpliceTells', WHERE WHAT IT READS IS OF BULK AT MOST 1048576: true; the input reads as it did. -/
def spliceTellsUptoRow : OpenClaim := { program := "ytfnbchbndmbjaaa", sum := "be87345179eef1f40b97487903ed57253f2f06d0572741efe8583971bc0df34d", func := "pouch/pouchlaw44.SpliceTells", spec := "spliceTells", unfollowed := true, recurses := true, apart := false, narrowed := true }
def SpliceTellsUptoSaid : Prop := spliceTellsUptoRow.holds Try.pinned (OpenSpec.upto spliceTellsSpec)

/-- 'pouchlaw44.SpliceApplies', WHERE WHAT IT READS IS OF BULK AT MOST 1048576: true; the input reads as it did. -/
def spliceAppliesUptoRow : OpenClaim := { program := "ytfnbchbndmbjaaa", sum := "be87345179eef1f40b97487903ed57253f2f06d0572741efe8583971bc0df34d", func := "pouch/pouchlaw44.SpliceApplies", spec := "spliceApplies", unfollowed := true, recurses := true, apart := false, narrowed := true }
def SpliceAppliesUptoSaid : Prop := spliceAppliesUptoRow.holds Try.pinned (OpenSpec.upto spliceAppliesSpec)

/-- 'pouchlaw44.SpliceBack', WHERE WHAT IT READS IS OF BULK AT MOST 1048576: true; the input reads as it did. -/
def spliceBackUptoRow : OpenClaim := { program := "ytfnbchbndmbjaaa", sum := "be87345179eef1f40b97487903ed57253f2f06d0572741efe8583971bc0df34d", func := "pouch/pouchlaw44.SpliceBack", spec := "spliceBack", unfollowed := true, recurses := true, apart := false, narrowed := true }
def SpliceBackUptoSaid : Prop := spliceBackUptoRow.holds Try.pinned (OpenSpec.upto spliceBackSpec)

/-- 'pouchlaw44.SpliceLeast', WHERE WHAT IT READS IS OF BULK AT MOST 1048576: true; the input reads as it did. -/
def spliceLeastUptoRow : OpenClaim := { program := "ytfnbchbndmbjaaa", sum := "be87345179eef1f40b97487903ed57253f2f06d0572741efe8583971bc0df34d", func := "pouch/pouchlaw44.SpliceLeast", spec := "spliceLeast", unfollowed := true, recurses := true, apart := false, narrowed := true }
def SpliceLeastUptoSaid : Prop := spliceLeastUptoRow.holds Try.pinned (OpenSpec.upto spliceLeastSpec)

/-- 'pouchlaw44.SpliceCounts', WHERE WHAT IT READS IS OF BULK AT MOST 1048576: true; the input reads as it did. -/
def spliceCountsUptoRow : OpenClaim := { program := "ytfnbchbndmbjaaa", sum := "be87345179eef1f40b97487903ed57253f2f06d0572741efe8583971bc0df34d", func := "pouch/pouchlaw44.SpliceCounts", spec := "spliceCounts", unfollowed := true, recurses := true, apart := false, narrowed := true }
def SpliceCountsUptoSaid : Prop := spliceCountsUptoRow.holds Try.pinned (OpenSpec.upto spliceCountsSpec)

/-- 'pouchlaw44.SpliceRows', WHERE WHAT IT READS IS OF BULK AT MOST 1048576: true; the input reads as it did. -/
def spliceRowsUptoRow : OpenClaim := { program := "ytfnbchbndmbjaaa", sum := "be87345179eef1f40b97487903ed57253f2f06d0572741efe8583971bc0df34d", func := "pouch/pouchlaw44.SpliceRows", spec := "spliceRows", unfollowed := true, recurses := true, apart := false, narrowed := true }
def SpliceRowsUptoSaid : Prop := spliceRowsUptoRow.holds Try.pinned (OpenSpec.upto spliceRowsSpec)

end Rows
end Go.Proofs.Ytfnbchbndmbjaaa
