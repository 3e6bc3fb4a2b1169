/-
  No cell of these rows narrows 'for every input' (looked for: loops, veiled, ifaces, maps, wideKeys, modest, calm, conditions, laid).
  DERIVED. THE GIVEN ROWS OF THIS SEAT. 4 by the template 'for every input the law returns true; each argument reads behind the call as it read before'; 0 by the template 'total and deterministic' (their statements: YtlobiebmaheflaaTotals.lean).
  GIVEN WITH THE SEED: the statements are not yours to turn. If you find one false, say at which input.
  Laid BY PROGRAM, IN A SANDBOX (cutbox-rows.mjs): the forced cells as the released guide's own fill.sh prints them over the translation c6b666c7817f23ee… (all of the seat's roots in one cut). By AI agents, Wed Nov 11 2026. No macro, syntax, notation, axiom, sorry.
-/
import Derived.Test.YtlobiebmaheflaaChecked
import GoSem.Claim
import GoSem.ClaimJoined
import GoSem.ClaimMapViews
import Derived.JoinedTies
import Derived.KernelRfl
namespace Go.Proofs.Ytlobiebmaheflaa
/- THE CELL 'sum', in the pinned program and in every row, IS THE sha256 OF THE DUMP (.gsa) THAT YtlobiebmaheflaaProg.lean LOADS. Nothing in Lean hashes anything: it is a label: what it is worth is what the hold of that sum in a sandbox is worth. -/
noncomputable def Try.pinned : Pinned := { name := "ytlobiebmaheflaa", sum := "c6b666c7817f23ee5bd1f6e4a3b70d089391cb8357a182cfcfb159edada67701", checked := Try.checked }
namespace Rows
def none {H : Type} : Left H := { results := [], args := [] }

/-- 'pouchlaw31.ThreadTells': WHATEVER THE INPUT: true; the input reads as it did. -/
def threadTellsSpec : ChangeSpec := { name := "threadTells", fn := fun _ => fun
  | [d1, d2] => { results := [.lit (.bool true)], args := [d1, d2] }
  | _ => none }
def threadTellsRow : OpenClaim := { program := "ytlobiebmaheflaa", sum := "c6b666c7817f23ee5bd1f6e4a3b70d089391cb8357a182cfcfb159edada67701", func := "pouch/pouchlaw31.ThreadTells", spec := "threadTells", unfollowed := true, recurses := true, plainKeys := false, apart := false }
def ThreadTellsSaid : Prop := threadTellsRow.holds Try.pinned (OpenSpec.ofChange threadTellsSpec)

/-- ITS FALSE NEIGHBOUR: 'it returns false'. Refute it at one input. -/
def threadTellsWrong : ChangeSpec := { name := "threadTells", fn := fun _ => fun
  | [d1, d2] => { results := [.lit (.bool false)], args := [d1, d2] }
  | _ => none }
def ThreadTellsWrongFalsely : Prop := threadTellsRow.holds Try.pinned (OpenSpec.ofChange threadTellsWrong)

/-- 'pouchlaw31.ThreadOrder': WHATEVER THE INPUT: true; the input reads as it did. -/
def threadOrderSpec : ChangeSpec := { name := "threadOrder", fn := fun _ => fun
  | [d] => { results := [.lit (.bool true)], args := [d] }
  | _ => none }
def threadOrderRow : OpenClaim := { program := "ytlobiebmaheflaa", sum := "c6b666c7817f23ee5bd1f6e4a3b70d089391cb8357a182cfcfb159edada67701", func := "pouch/pouchlaw31.ThreadOrder", spec := "threadOrder", unfollowed := true, recurses := true, plainKeys := false, apart := false }
def ThreadOrderSaid : Prop := threadOrderRow.holds Try.pinned (OpenSpec.ofChange threadOrderSpec)

/-- ITS FALSE NEIGHBOUR: 'it returns false'. Refute it at one input. -/
def threadOrderWrong : ChangeSpec := { name := "threadOrder", fn := fun _ => fun
  | [d] => { results := [.lit (.bool false)], args := [d] }
  | _ => none }
def ThreadOrderWrongFalsely : Prop := threadOrderRow.holds Try.pinned (OpenSpec.ofChange threadOrderWrong)

/-- 'pouchlaw31.ThreadParts': WHATEVER THE INPUT: true; the input reads as it did. -/
def threadPartsSpec : ChangeSpec := { name := "threadParts", fn := fun _ => fun
  | [d] => { results := [.lit (.bool true)], args := [d] }
  | _ => none }
def threadPartsRow : OpenClaim := { program := "ytlobiebmaheflaa", sum := "c6b666c7817f23ee5bd1f6e4a3b70d089391cb8357a182cfcfb159edada67701", func := "pouch/pouchlaw31.ThreadParts", spec := "threadParts", unfollowed := true, recurses := true, plainKeys := false, apart := false }
def ThreadPartsSaid : Prop := threadPartsRow.holds Try.pinned (OpenSpec.ofChange threadPartsSpec)

/-- ITS FALSE NEIGHBOUR: 'it returns false'. Refute it at one input. -/
def threadPartsWrong : ChangeSpec := { name := "threadParts", fn := fun _ => fun
  | [d] => { results := [.lit (.bool false)], args := [d] }
  | _ => none }
def ThreadPartsWrongFalsely : Prop := threadPartsRow.holds Try.pinned (OpenSpec.ofChange threadPartsWrong)

/-- 'pouchlaw31.ThreadComes': WHATEVER THE INPUT: true; the input reads as it did. -/
def threadComesSpec : ChangeSpec := { name := "threadComes", fn := fun _ => fun
  | [d1, d2] => { results := [.lit (.bool true)], args := [d1, d2] }
  | _ => none }
def threadComesRow : OpenClaim := { program := "ytlobiebmaheflaa", sum := "c6b666c7817f23ee5bd1f6e4a3b70d089391cb8357a182cfcfb159edada67701", func := "pouch/pouchlaw31.ThreadComes", spec := "threadComes", unfollowed := true, recurses := true, plainKeys := false, apart := false }
def ThreadComesSaid : Prop := threadComesRow.holds Try.pinned (OpenSpec.ofChange threadComesSpec)

/-- ITS FALSE NEIGHBOUR: 'it returns false'. Refute it at one input. -/
def threadComesWrong : ChangeSpec := { name := "threadComes", fn := fun _ => fun
  | [d1, d2] => { results := [.lit (.bool false)], args := [d1, d2] }
  | _ => none }
def ThreadComesWrongFalsely : Prop := threadComesRow.holds Try.pinned (OpenSpec.ofChange threadComesWrong)

/- THE SECOND FORM. 'bulk': how many values and letters a reading holds, each counted each time it is reached (what is shared counts as often as it is met; a slice's spare places count too). A statement '..UptoSaid' is the law's where the arguments, and the package variables that the reading takes, are together of bulk at most 1048576: NARROWER than '..Said'. Prove '..Said' where nothing that the law and all that it calls make is longer than what came in: it says more and counts as full. Else prove '..UptoSaid'. A law counts once. -/
mutual
def uptoBulk {H : Type} : DataW H → Nat
  | .lit (.string bytes) => bytes.length + 1
  | .lit _ => 1
  | .nil => 1
  | .ptr d => uptoBulk d + 1
  | .slice elems spare => uptoBulkAll elems + uptoBulkAll spare + 1
  | .agg parts => uptoBulkAll parts + 1
  | .iface _ d => uptoBulk d + 1
  | .map entries => uptoBulkEntries entries + 1
  | .held _ => 1
def uptoBulkAll {H : Type} : List (DataW H) → Nat
  | [] => 0
  | d :: r => uptoBulk d + uptoBulkAll r
def uptoBulkEntries {H : Type} : List (Lit × DataW H) → Nat
  | [] => 0
  | x :: r => uptoBulkEntry x + uptoBulkEntries r
def uptoBulkEntry {H : Type} : Lit × DataW H → Nat
  | (.string bytes, d) => bytes.length + uptoBulk d + 1
  | (_, d) => uptoBulk d + 1
 end
def uptoSmall : (H : Type) → List (DataW H) → Bool := fun _ ds => decide (uptoBulkAll ds ≤ 1048576)
def OpenSpec.upto (s : _root_.Go.ChangeSpec) : _root_.Go.OpenSpec := { _root_.Go.OpenSpec.ofChange s with cond := some uptoSmall }

/-- 'pouchlaw31.ThreadTells', WHERE WHAT IT READS IS OF BULK AT MOST 1048576: true; the input reads as it did. -/
def threadTellsUptoRow : OpenClaim := { program := "ytlobiebmaheflaa", sum := "c6b666c7817f23ee5bd1f6e4a3b70d089391cb8357a182cfcfb159edada67701", func := "pouch/pouchlaw31.ThreadTells", spec := "threadTells", unfollowed := true, recurses := true, plainKeys := false, apart := false, narrowed := true }
def ThreadTellsUptoSaid : Prop := threadTellsUptoRow.holds Try.pinned (OpenSpec.upto threadTellsSpec)

/-- 'pouchlaw31.ThreadOrder', WHERE WHAT IT READS IS OF BULK AT MOST 1048576: true; the input reads as it did. -/
def threadOrderUptoRow : OpenClaim := { program := "ytlobiebmaheflaa", sum := "c6b666c7817f23ee5bd1f6e4a3b70d089391cb8357a182cfcfb159edada67701", func := "pouch/pouchlaw31.ThreadOrder", spec := "threadOrder", unfollowed := true, recurses := true, plainKeys := false, apart := false, narrowed := true }
def ThreadOrderUptoSaid : Prop := threadOrderUptoRow.holds Try.pinned (OpenSpec.upto threadOrderSpec)

/-- 'pouchlaw31.ThreadParts', WHERE WHAT IT READS IS OF BULK AT MOST 1048576: true; the input reads as it did. -/
def threadPartsUptoRow : OpenClaim := { program := "ytlobiebmaheflaa", sum := "c6b666c7817f23ee5bd1f6e4a3b70d089391cb8357a182cfcfb159edada67701", func := "pouch/pouchlaw31.ThreadParts", spec := "threadParts", unfollowed := true, recurses := true, plainKeys := false, apart := false, narrowed := true }
def ThreadPartsUptoSaid : Prop := threadPartsUptoRow.holds Try.pinned (OpenSpec.upto threadPartsSpec)

/-- 'pouchlaw31.ThreadComes', WHERE WHAT IT READS IS OF BULK AT MOST 1048576: true; the input reads as it did. -/
def threadComesUptoRow : OpenClaim := { program := "ytlobiebmaheflaa", sum := "c6b666c7817f23ee5bd1f6e4a3b70d089391cb8357a182cfcfb159edada67701", func := "pouch/pouchlaw31.ThreadComes", spec := "threadComes", unfollowed := true, recurses := true, plainKeys := false, apart := false, narrowed := true }
def ThreadComesUptoSaid : Prop := threadComesUptoRow.holds Try.pinned (OpenSpec.upto threadComesSpec)

end Rows
end Go.Proofs.Ytlobiebmaheflaa
