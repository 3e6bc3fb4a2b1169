/-
  NARROWER THAN 'FOR EVERY INPUT', by the rows' own cells (each row's printed sentence says how): SegmentBuilds: laid · SegmentTells: laid · SegmentFinds: laid · SegmentOrder: laid · SegmentPrefixes: laid · SegmentPhrases: laid.
  DERIVED. THE GIVEN ROWS OF THIS SEAT. 6 by the template 'for every input the law returns true; each argument reads behind the call as it read before'; 0 by the template 'total and deterministic' (their statements: YtfinpehbpcckaaaGreatDoorTotals.lean).
  GIVEN WITH THE SEED: the statements are not yours to turn. If you find one false, say at which input.
  Laid BY PROGRAM, IN A SANDBOX (cutbox-rows.mjs): the forced cells as the released guide's own fill.sh prints them over the translation 543d1b42e7883fac… (all of the seat's roots in one cut). By AI agents, Wed Nov 11 2026. No macro, syntax, notation, axiom, sorry.
-/
import Derived.Test.YtfinpehbpcckaaaGreatDoorChecked
import GoSem.Claim
import GoSem.ClaimJoined
import GoSem.ClaimMapViews
import Derived.JoinedTies
import Derived.KernelRfl
namespace Go.Proofs.YtfinpehbpcckaaaGreatDoor
/- THE CELL 'sum', in the pinned program and in every row, IS THE sha256 OF THE DUMP (.gsa) THAT YtfinpehbpcckaaaGreatDoorProg.lean LOADS. Nothing in Lean hashes anything: it is a label: what it is worth is what the hold of that sum in a sandbox is worth. -/
noncomputable def Tryz.pinned : Pinned := { name := "ytfinpehbpcckaaagreatdoor", sum := "543d1b42e7883fac858f4511d94103c545dab70bc1ce0decf408a253b0688989", checked := Tryz.checked }
namespace Rows
def none {H : Type} : Left H := { results := [], args := [] }

/- WHAT THE LISTED PACKAGE-LEVEL VARIABLES READ AS WHEN THE CALL BEGINS. Each datum BY PROGRAM (the guide's laid-datum.mjs) off the statement by which the dump's own 'gosem.cut.vars' lays the variable. In a bare row this is a premise. The card (YtfinpehbpcckaaaGreatDoorCards.lean) ties it to the program's text. -/
def laid_pouch_fold_spans {H : Type} : DataW H := .slice [.agg [.lit (.int .i32 65), .lit (.int .i32 90), .lit (.int .i32 1), .lit (.int .i32 32)], .agg [.lit (.int .i32 192), .lit (.int .i32 214), .lit (.int .i32 1), .lit (.int .i32 32)], .agg [.lit (.int .i32 216), .lit (.int .i32 222), .lit (.int .i32 1), .lit (.int .i32 32)], .agg [.lit (.int .i32 256), .lit (.int .i32 303), .lit (.int .i32 2), .lit (.int .i32 1)], .agg [.lit (.int .i32 306), .lit (.int .i32 311), .lit (.int .i32 2), .lit (.int .i32 1)], .agg [.lit (.int .i32 313), .lit (.int .i32 328), .lit (.int .i32 2), .lit (.int .i32 1)], .agg [.lit (.int .i32 330), .lit (.int .i32 375), .lit (.int .i32 2), .lit (.int .i32 1)], .agg [.lit (.int .i32 376), .lit (.int .i32 376), .lit (.int .i32 1), .lit (.int .i32 (-121))], .agg [.lit (.int .i32 377), .lit (.int .i32 382), .lit (.int .i32 2), .lit (.int .i32 1)], .agg [.lit (.int .i32 902), .lit (.int .i32 902), .lit (.int .i32 1), .lit (.int .i32 38)], .agg [.lit (.int .i32 904), .lit (.int .i32 906), .lit (.int .i32 1), .lit (.int .i32 37)], .agg [.lit (.int .i32 908), .lit (.int .i32 908), .lit (.int .i32 1), .lit (.int .i32 64)], .agg [.lit (.int .i32 910), .lit (.int .i32 911), .lit (.int .i32 1), .lit (.int .i32 63)], .agg [.lit (.int .i32 913), .lit (.int .i32 929), .lit (.int .i32 1), .lit (.int .i32 32)], .agg [.lit (.int .i32 931), .lit (.int .i32 939), .lit (.int .i32 1), .lit (.int .i32 32)], .agg [.lit (.int .i32 1024), .lit (.int .i32 1039), .lit (.int .i32 1), .lit (.int .i32 80)], .agg [.lit (.int .i32 1040), .lit (.int .i32 1071), .lit (.int .i32 1), .lit (.int .i32 32)]] []
def laid_pouch_cut_spans {H : Type} : DataW H := .slice [.agg [.lit (.int .i64 215), .lit (.int .i64 215), .lit (.int .i64 0)], .agg [.lit (.int .i64 247), .lit (.int .i64 247), .lit (.int .i64 0)], .agg [.lit (.int .i64 8192), .lit (.int .i64 11263), .lit (.int .i64 0)], .agg [.lit (.int .i64 11904), .lit (.int .i64 12255), .lit (.int .i64 2)], .agg [.lit (.int .i64 12288), .lit (.int .i64 12351), .lit (.int .i64 0)], .agg [.lit (.int .i64 12353), .lit (.int .i64 12543), .lit (.int .i64 2)], .agg [.lit (.int .i64 12549), .lit (.int .i64 12591), .lit (.int .i64 2)], .agg [.lit (.int .i64 12593), .lit (.int .i64 12686), .lit (.int .i64 2)], .agg [.lit (.int .i64 13312), .lit (.int .i64 19903), .lit (.int .i64 2)], .agg [.lit (.int .i64 19968), .lit (.int .i64 40959), .lit (.int .i64 2)], .agg [.lit (.int .i64 44032), .lit (.int .i64 55203), .lit (.int .i64 2)], .agg [.lit (.int .i64 55296), .lit (.int .i64 63743), .lit (.int .i64 0)], .agg [.lit (.int .i64 63744), .lit (.int .i64 64255), .lit (.int .i64 2)], .agg [.lit (.int .i64 65024), .lit (.int .i64 65039), .lit (.int .i64 0)], .agg [.lit (.int .i64 65072), .lit (.int .i64 65135), .lit (.int .i64 0)], .agg [.lit (.int .i64 65280), .lit (.int .i64 65295), .lit (.int .i64 0)], .agg [.lit (.int .i64 65520), .lit (.int .i64 65535), .lit (.int .i64 0)], .agg [.lit (.int .i64 126976), .lit (.int .i64 129791), .lit (.int .i64 0)], .agg [.lit (.int .i64 131072), .lit (.int .i64 262143), .lit (.int .i64 2)]] []

/-- 'pouchlaw34.SegmentBuilds': WHATEVER THE INPUT: true; the input reads as it did. -/
def segmentBuildsSpec : ChangeSpec := { name := "segmentBuilds", fn := fun _ => fun
  | [d] => { results := [.lit (.bool true)], args := [d] }
  | _ => none }
def segmentBuildsRow : OpenClaim := { program := "ytfinpehbpcckaaagreatdoor", sum := "543d1b42e7883fac858f4511d94103c545dab70bc1ce0decf408a253b0688989", func := "pouch/pouchlaw34.SegmentBuilds", spec := "segmentBuilds", inPlace := ["internal/abi.NoEscape", "internal/bytealg.abigen_runtime_cmpstring"], unfollowed := true, recurses := true, named := ["pouch/fold.spans", "pouch/cut.spans"], plainKeys := false, apart := false, laid := [("pouch/fold.spans", laid_pouch_fold_spans), ("pouch/cut.spans", laid_pouch_cut_spans)] }
def SegmentBuildsSaid : Prop := segmentBuildsRow.holds Tryz.pinned (OpenSpec.ofChange segmentBuildsSpec)

/-- ITS FALSE NEIGHBOUR: 'it returns false'. Refute it at one input. -/
def segmentBuildsWrong : ChangeSpec := { name := "segmentBuilds", fn := fun _ => fun
  | [d] => { results := [.lit (.bool false)], args := [d] }
  | _ => none }
def SegmentBuildsWrongFalsely : Prop := segmentBuildsRow.holds Tryz.pinned (OpenSpec.ofChange segmentBuildsWrong)

/-- 'pouchlaw34.SegmentTells': WHATEVER THE INPUT: true; the input reads as it did. -/
def segmentTellsSpec : ChangeSpec := { name := "segmentTells", fn := fun _ => fun
  | [d1, d2, d3, d4] => { results := [.lit (.bool true)], args := [d1, d2, d3, d4] }
  | _ => none }
def segmentTellsRow : OpenClaim := { program := "ytfinpehbpcckaaagreatdoor", sum := "543d1b42e7883fac858f4511d94103c545dab70bc1ce0decf408a253b0688989", func := "pouch/pouchlaw34.SegmentTells", spec := "segmentTells", inPlace := ["internal/abi.NoEscape", "internal/bytealg.abigen_runtime_cmpstring"], unfollowed := true, recurses := true, named := ["pouch/fold.spans", "pouch/cut.spans"], plainKeys := false, apart := false, laid := [("pouch/fold.spans", laid_pouch_fold_spans), ("pouch/cut.spans", laid_pouch_cut_spans)] }
def SegmentTellsSaid : Prop := segmentTellsRow.holds Tryz.pinned (OpenSpec.ofChange segmentTellsSpec)

/-- ITS FALSE NEIGHBOUR: 'it returns false'. Refute it at one input. -/
def segmentTellsWrong : ChangeSpec := { name := "segmentTells", fn := fun _ => fun
  | [d1, d2, d3, d4] => { results := [.lit (.bool false)], args := [d1, d2, d3, d4] }
  | _ => none }
def SegmentTellsWrongFalsely : Prop := segmentTellsRow.holds Tryz.pinned (OpenSpec.ofChange segmentTellsWrong)

/-- 'pouchlaw34.SegmentFinds': WHATEVER THE INPUT: true; the input reads as it did. -/
def segmentFindsSpec : ChangeSpec := { name := "segmentFinds", fn := fun _ => fun
  | [d1, d2] => { results := [.lit (.bool true)], args := [d1, d2] }
  | _ => none }
def segmentFindsRow : OpenClaim := { program := "ytfinpehbpcckaaagreatdoor", sum := "543d1b42e7883fac858f4511d94103c545dab70bc1ce0decf408a253b0688989", func := "pouch/pouchlaw34.SegmentFinds", spec := "segmentFinds", inPlace := ["internal/abi.NoEscape", "internal/bytealg.abigen_runtime_cmpstring"], unfollowed := true, recurses := true, named := ["pouch/fold.spans", "pouch/cut.spans"], plainKeys := false, apart := false, laid := [("pouch/fold.spans", laid_pouch_fold_spans), ("pouch/cut.spans", laid_pouch_cut_spans)] }
def SegmentFindsSaid : Prop := segmentFindsRow.holds Tryz.pinned (OpenSpec.ofChange segmentFindsSpec)

/-- ITS FALSE NEIGHBOUR: 'it returns false'. Refute it at one input. -/
def segmentFindsWrong : ChangeSpec := { name := "segmentFinds", fn := fun _ => fun
  | [d1, d2] => { results := [.lit (.bool false)], args := [d1, d2] }
  | _ => none }
def SegmentFindsWrongFalsely : Prop := segmentFindsRow.holds Tryz.pinned (OpenSpec.ofChange segmentFindsWrong)

/-- 'pouchlaw34.SegmentOrder': WHATEVER THE INPUT: true; the input reads as it did. -/
def segmentOrderSpec : ChangeSpec := { name := "segmentOrder", fn := fun _ => fun
  | [d] => { results := [.lit (.bool true)], args := [d] }
  | _ => none }
def segmentOrderRow : OpenClaim := { program := "ytfinpehbpcckaaagreatdoor", sum := "543d1b42e7883fac858f4511d94103c545dab70bc1ce0decf408a253b0688989", func := "pouch/pouchlaw34.SegmentOrder", spec := "segmentOrder", inPlace := ["internal/abi.NoEscape", "internal/bytealg.abigen_runtime_cmpstring"], unfollowed := true, recurses := true, named := ["pouch/fold.spans", "pouch/cut.spans"], plainKeys := false, apart := false, laid := [("pouch/fold.spans", laid_pouch_fold_spans), ("pouch/cut.spans", laid_pouch_cut_spans)] }
def SegmentOrderSaid : Prop := segmentOrderRow.holds Tryz.pinned (OpenSpec.ofChange segmentOrderSpec)

/-- ITS FALSE NEIGHBOUR: 'it returns false'. Refute it at one input. -/
def segmentOrderWrong : ChangeSpec := { name := "segmentOrder", fn := fun _ => fun
  | [d] => { results := [.lit (.bool false)], args := [d] }
  | _ => none }
def SegmentOrderWrongFalsely : Prop := segmentOrderRow.holds Tryz.pinned (OpenSpec.ofChange segmentOrderWrong)

/-- 'pouchlaw34.SegmentPrefixes': WHATEVER THE INPUT: true; the input reads as it did. -/
def segmentPrefixesSpec : ChangeSpec := { name := "segmentPrefixes", fn := fun _ => fun
  | [d1, d2] => { results := [.lit (.bool true)], args := [d1, d2] }
  | _ => none }
def segmentPrefixesRow : OpenClaim := { program := "ytfinpehbpcckaaagreatdoor", sum := "543d1b42e7883fac858f4511d94103c545dab70bc1ce0decf408a253b0688989", func := "pouch/pouchlaw34.SegmentPrefixes", spec := "segmentPrefixes", inPlace := ["internal/abi.NoEscape", "internal/bytealg.abigen_runtime_cmpstring"], unfollowed := true, recurses := true, named := ["pouch/fold.spans", "pouch/cut.spans"], plainKeys := false, apart := false, laid := [("pouch/fold.spans", laid_pouch_fold_spans), ("pouch/cut.spans", laid_pouch_cut_spans)] }
def SegmentPrefixesSaid : Prop := segmentPrefixesRow.holds Tryz.pinned (OpenSpec.ofChange segmentPrefixesSpec)

/-- ITS FALSE NEIGHBOUR: 'it returns false'. Refute it at one input. -/
def segmentPrefixesWrong : ChangeSpec := { name := "segmentPrefixes", fn := fun _ => fun
  | [d1, d2] => { results := [.lit (.bool false)], args := [d1, d2] }
  | _ => none }
def SegmentPrefixesWrongFalsely : Prop := segmentPrefixesRow.holds Tryz.pinned (OpenSpec.ofChange segmentPrefixesWrong)

/-- 'pouchlaw34.SegmentPhrases': WHATEVER THE INPUT: true; the input reads as it did. -/
def segmentPhrasesSpec : ChangeSpec := { name := "segmentPhrases", fn := fun _ => fun
  | [d1, d2, d3] => { results := [.lit (.bool true)], args := [d1, d2, d3] }
  | _ => none }
def segmentPhrasesRow : OpenClaim := { program := "ytfinpehbpcckaaagreatdoor", sum := "543d1b42e7883fac858f4511d94103c545dab70bc1ce0decf408a253b0688989", func := "pouch/pouchlaw34.SegmentPhrases", spec := "segmentPhrases", inPlace := ["internal/abi.NoEscape", "internal/bytealg.abigen_runtime_cmpstring"], unfollowed := true, recurses := true, named := ["pouch/fold.spans", "pouch/cut.spans"], plainKeys := false, apart := false, laid := [("pouch/fold.spans", laid_pouch_fold_spans), ("pouch/cut.spans", laid_pouch_cut_spans)] }
def SegmentPhrasesSaid : Prop := segmentPhrasesRow.holds Tryz.pinned (OpenSpec.ofChange segmentPhrasesSpec)

/-- ITS FALSE NEIGHBOUR: 'it returns false'. Refute it at one input. -/
def segmentPhrasesWrong : ChangeSpec := { name := "segmentPhrases", fn := fun _ => fun
  | [d1, d2, d3] => { results := [.lit (.bool false)], args := [d1, d2, d3] }
  | _ => none }
def SegmentPhrasesWrongFalsely : Prop := segmentPhrasesRow.holds Tryz.pinned (OpenSpec.ofChange segmentPhrasesWrong)

/- THE SECOND FORM. 'bulk': how many values and letters a reading holds, each counted each time it is reached (what is shared counts as often as it is met; a slice's spare places count too). A statement '..UptoSaid' is the law's where the arguments, and the package variables that the reading takes, are together of bulk at most 1048576: NARROWER than '..Said'. Prove '..Said' where nothing that the law and all that it calls make is longer than what came in: it says more and counts as full. Else prove '..UptoSaid'. A law counts once. -/
mutual
def uptoBulk {H : Type} : DataW H → Nat
  | .lit (.string bytes) => bytes.length + 1
  | .lit _ => 1
  | .nil => 1
  | .ptr d => uptoBulk d + 1
  | .slice elems spare => uptoBulkAll elems + uptoBulkAll spare + 1
  | .agg parts => uptoBulkAll parts + 1
  | .iface _ d => uptoBulk d + 1
  | .map entries => uptoBulkEntries entries + 1
  | .held _ => 1
def uptoBulkAll {H : Type} : List (DataW H) → Nat
  | [] => 0
  | d :: r => uptoBulk d + uptoBulkAll r
def uptoBulkEntries {H : Type} : List (Lit × DataW H) → Nat
  | [] => 0
  | x :: r => uptoBulkEntry x + uptoBulkEntries r
def uptoBulkEntry {H : Type} : Lit × DataW H → Nat
  | (.string bytes, d) => bytes.length + uptoBulk d + 1
  | (_, d) => uptoBulk d + 1
 end
def uptoSmall : (H : Type) → List (DataW H) → Bool := fun _ ds => decide (uptoBulkAll ds ≤ 1048576)
def OpenSpec.upto (s : _root_.Go.ChangeSpec) : _root_.Go.OpenSpec := { _root_.Go.OpenSpec.ofChange s with cond := some uptoSmall }

/-- 'pouchlaw34.SegmentBuilds', WHERE WHAT IT READS IS OF BULK AT MOST 1048576: true; the input reads as it did. -/
def segmentBuildsUptoRow : OpenClaim := { program := "ytfinpehbpcckaaagreatdoor", sum := "543d1b42e7883fac858f4511d94103c545dab70bc1ce0decf408a253b0688989", func := "pouch/pouchlaw34.SegmentBuilds", spec := "segmentBuilds", inPlace := ["internal/abi.NoEscape", "internal/bytealg.abigen_runtime_cmpstring"], unfollowed := true, recurses := true, named := ["pouch/fold.spans", "pouch/cut.spans"], plainKeys := false, apart := false, laid := [("pouch/fold.spans", laid_pouch_fold_spans), ("pouch/cut.spans", laid_pouch_cut_spans)], narrowed := true }
def SegmentBuildsUptoSaid : Prop := segmentBuildsUptoRow.holds Tryz.pinned (OpenSpec.upto segmentBuildsSpec)

/-- 'pouchlaw34.SegmentTells', WHERE WHAT IT READS IS OF BULK AT MOST 1048576: true; the input reads as it did. -/
def segmentTellsUptoRow : OpenClaim := { program := "ytfinpehbpcckaaagreatdoor", sum := "543d1b42e7883fac858f4511d94103c545dab70bc1ce0decf408a253b0688989", func := "pouch/pouchlaw34.SegmentTells", spec := "segmentTells", inPlace := ["internal/abi.NoEscape", "internal/bytealg.abigen_runtime_cmpstring"], unfollowed := true, recurses := true, named := ["pouch/fold.spans", "pouch/cut.spans"], plainKeys := false, apart := false, laid := [("pouch/fold.spans", laid_pouch_fold_spans), ("pouch/cut.spans", laid_pouch_cut_spans)], narrowed := true }
def SegmentTellsUptoSaid : Prop := segmentTellsUptoRow.holds Tryz.pinned (OpenSpec.upto segmentTellsSpec)

/-- 'pouchlaw34.SegmentFinds', WHERE WHAT IT READS IS OF BULK AT MOST 1048576: true; the input reads as it did. -/
def segmentFindsUptoRow : OpenClaim := { program := "ytfinpehbpcckaaagreatdoor", sum := "543d1b42e7883fac858f4511d94103c545dab70bc1ce0decf408a253b0688989", func := "pouch/pouchlaw34.SegmentFinds", spec := "segmentFinds", inPlace := ["internal/abi.NoEscape", "internal/bytealg.abigen_runtime_cmpstring"], unfollowed := true, recurses := true, named := ["pouch/fold.spans", "pouch/cut.spans"], plainKeys := false, apart := false, laid := [("pouch/fold.spans", laid_pouch_fold_spans), ("pouch/cut.spans", laid_pouch_cut_spans)], narrowed := true }
def SegmentFindsUptoSaid : Prop := segmentFindsUptoRow.holds Tryz.pinned (OpenSpec.upto segmentFindsSpec)

/-- 'pouchlaw34.SegmentOrder', WHERE WHAT IT READS IS OF BULK AT MOST 1048576: true; the input reads as it did. -/
def segmentOrderUptoRow : OpenClaim := { program := "ytfinpehbpcckaaagreatdoor", sum := "543d1b42e7883fac858f4511d94103c545dab70bc1ce0decf408a253b0688989", func := "pouch/pouchlaw34.SegmentOrder", spec := "segmentOrder", inPlace := ["internal/abi.NoEscape", "internal/bytealg.abigen_runtime_cmpstring"], unfollowed := true, recurses := true, named := ["pouch/fold.spans", "pouch/cut.spans"], plainKeys := false, apart := false, laid := [("pouch/fold.spans", laid_pouch_fold_spans), ("pouch/cut.spans", laid_pouch_cut_spans)], narrowed := true }
def SegmentOrderUptoSaid : Prop := segmentOrderUptoRow.holds Tryz.pinned (OpenSpec.upto segmentOrderSpec)

/-- 'pouchlaw34.SegmentPrefixes', WHERE WHAT IT READS IS OF BULK AT MOST 1048576: true; the input reads as it did. -/
def segmentPrefixesUptoRow : OpenClaim := { program := "ytfinpehbpcckaaagreatdoor", sum := "543d1b42e7883fac858f4511d94103c545dab70bc1ce0decf408a253b0688989", func := "pouch/pouchlaw34.SegmentPrefixes", spec := "segmentPrefixes", inPlace := ["internal/abi.NoEscape", "internal/bytealg.abigen_runtime_cmpstring"], unfollowed := true, recurses := true, named := ["pouch/fold.spans", "pouch/cut.spans"], plainKeys := false, apart := false, laid := [("pouch/fold.spans", laid_pouch_fold_spans), ("pouch/cut.spans", laid_pouch_cut_spans)], narrowed := true }
def SegmentPrefixesUptoSaid : Prop := segmentPrefixesUptoRow.holds Tryz.pinned (OpenSpec.upto segmentPrefixesSpec)

/-- 'pouchlaw34.SegmentPhrases', WHERE WHAT IT READS IS OF BULK AT MOST 1048576: true; the input reads as it did. -/
def segmentPhrasesUptoRow : OpenClaim := { program := "ytfinpehbpcckaaagreatdoor", sum := "543d1b42e7883fac858f4511d94103c545dab70bc1ce0decf408a253b0688989", func := "pouch/pouchlaw34.SegmentPhrases", spec := "segmentPhrases", inPlace := ["internal/abi.NoEscape", "internal/bytealg.abigen_runtime_cmpstring"], unfollowed := true, recurses := true, named := ["pouch/fold.spans", "pouch/cut.spans"], plainKeys := false, apart := false, laid := [("pouch/fold.spans", laid_pouch_fold_spans), ("pouch/cut.spans", laid_pouch_cut_spans)], narrowed := true }
def SegmentPhrasesUptoSaid : Prop := segmentPhrasesUptoRow.holds Tryz.pinned (OpenSpec.upto segmentPhrasesSpec)

end Rows
end Go.Proofs.YtfinpehbpcckaaaGreatDoor
