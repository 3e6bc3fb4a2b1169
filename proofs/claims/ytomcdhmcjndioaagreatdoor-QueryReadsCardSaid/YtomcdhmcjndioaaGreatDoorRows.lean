/-
  NARROWER THAN 'FOR EVERY INPUT', by the rows' own cells (each row's printed sentence says how): QueryReads: laid · QueryJoins: laid.
  DERIVED. THE GIVEN ROWS OF THIS SEAT. 2 by the template 'for every input the law returns true; each argument reads behind the call as it read before'; 0 by the template 'total and deterministic' (their statements: YtomcdhmcjndioaaGreatDoorTotals.lean).
  GIVEN WITH THE SEED: the statements are not yours to turn. If you find one false, say at which input.
  Laid BY PROGRAM, IN A SANDBOX (cutbox-rows.mjs): the forced cells as the released guide's own fill.sh prints them over the translation 5109e1d45801153a… (all of the seat's roots in one cut). By AI agents, Wed Nov 11 2026. No macro, syntax, notation, axiom, sorry.
-/
import Derived.Test.YtomcdhmcjndioaaGreatDoorChecked
import GoSem.PinnedTables
import GoSem.Claim
import GoSem.ClaimJoined
import GoSem.ClaimMapViews
import Derived.JoinedTies
import Derived.KernelRfl
namespace Go.Proofs.YtomcdhmcjndioaaGreatDoor
/- THE CELL 'sum', in the pinned program and in every row, IS THE sha256 OF THE DUMP (.gsa) THAT YtomcdhmcjndioaaGreatDoorProg.lean LOADS. Nothing in Lean hashes anything: it is a label: what it is worth is what the hold of that sum in a sandbox is worth. -/
noncomputable def Tryz.pinned : Pinned := { name := "ytomcdhmcjndioaagreatdoor", sum := "5109e1d45801153a813bd0dc3c8af9758bb24c88c86bcd9cf2c17a67ba992611", checked := Tryz.checked }
namespace Rows
def none {H : Type} : Left H := { results := [], args := [] }

/- WHAT THE LISTED PACKAGE-LEVEL VARIABLES READ AS WHEN THE CALL BEGINS. Each datum BY PROGRAM (the guide's laid-datum.mjs) off the statement by which the dump's own 'gosem.cut.vars' lays the variable. In a bare row this is a premise. The card (YtomcdhmcjndioaaGreatDoorCards.lean) ties it to the program's text. -/
def laid_math_bits_deBruijn32tab {H : Type} : DataW H := .agg [.lit (.int .u8 0), .lit (.int .u8 1), .lit (.int .u8 28), .lit (.int .u8 2), .lit (.int .u8 29), .lit (.int .u8 14), .lit (.int .u8 24), .lit (.int .u8 3), .lit (.int .u8 30), .lit (.int .u8 22), .lit (.int .u8 20), .lit (.int .u8 15), .lit (.int .u8 25), .lit (.int .u8 17), .lit (.int .u8 4), .lit (.int .u8 8), .lit (.int .u8 31), .lit (.int .u8 27), .lit (.int .u8 13), .lit (.int .u8 23), .lit (.int .u8 21), .lit (.int .u8 19), .lit (.int .u8 16), .lit (.int .u8 7), .lit (.int .u8 26), .lit (.int .u8 12), .lit (.int .u8 18), .lit (.int .u8 6), .lit (.int .u8 11), .lit (.int .u8 5), .lit (.int .u8 10), .lit (.int .u8 9)]
def laid_math_bits_deBruijn64tab {H : Type} : DataW H := .agg [.lit (.int .u8 0), .lit (.int .u8 1), .lit (.int .u8 56), .lit (.int .u8 2), .lit (.int .u8 57), .lit (.int .u8 49), .lit (.int .u8 28), .lit (.int .u8 3), .lit (.int .u8 61), .lit (.int .u8 58), .lit (.int .u8 42), .lit (.int .u8 50), .lit (.int .u8 38), .lit (.int .u8 29), .lit (.int .u8 17), .lit (.int .u8 4), .lit (.int .u8 62), .lit (.int .u8 47), .lit (.int .u8 59), .lit (.int .u8 36), .lit (.int .u8 45), .lit (.int .u8 43), .lit (.int .u8 51), .lit (.int .u8 22), .lit (.int .u8 53), .lit (.int .u8 39), .lit (.int .u8 33), .lit (.int .u8 30), .lit (.int .u8 24), .lit (.int .u8 18), .lit (.int .u8 12), .lit (.int .u8 5), .lit (.int .u8 63), .lit (.int .u8 55), .lit (.int .u8 48), .lit (.int .u8 27), .lit (.int .u8 60), .lit (.int .u8 41), .lit (.int .u8 37), .lit (.int .u8 16), .lit (.int .u8 46), .lit (.int .u8 35), .lit (.int .u8 44), .lit (.int .u8 21), .lit (.int .u8 52), .lit (.int .u8 32), .lit (.int .u8 23), .lit (.int .u8 11), .lit (.int .u8 54), .lit (.int .u8 26), .lit (.int .u8 40), .lit (.int .u8 15), .lit (.int .u8 34), .lit (.int .u8 20), .lit (.int .u8 31), .lit (.int .u8 10), .lit (.int .u8 25), .lit (.int .u8 14), .lit (.int .u8 19), .lit (.int .u8 9), .lit (.int .u8 13), .lit (.int .u8 8), .lit (.int .u8 7), .lit (.int .u8 6)]
def laid_internal_strconv_uint64pow10 {H : Type} : DataW H := .agg [.lit (.int .u64 1), .lit (.int .u64 10), .lit (.int .u64 100), .lit (.int .u64 1000), .lit (.int .u64 10000), .lit (.int .u64 100000), .lit (.int .u64 1000000), .lit (.int .u64 10000000), .lit (.int .u64 100000000), .lit (.int .u64 1000000000), .lit (.int .u64 10000000000), .lit (.int .u64 100000000000), .lit (.int .u64 1000000000000), .lit (.int .u64 10000000000000), .lit (.int .u64 100000000000000), .lit (.int .u64 1000000000000000), .lit (.int .u64 10000000000000000), .lit (.int .u64 100000000000000000), .lit (.int .u64 1000000000000000000), .lit (.int .u64 10000000000000000000)]
def laid_unicode_utf8_acceptRanges {H : Type} : DataW H := .agg [.agg [.lit (.int .u8 128), .lit (.int .u8 191)], .agg [.lit (.int .u8 160), .lit (.int .u8 191)], .agg [.lit (.int .u8 128), .lit (.int .u8 159)], .agg [.lit (.int .u8 144), .lit (.int .u8 191)], .agg [.lit (.int .u8 128), .lit (.int .u8 143)], .agg [.lit (.int .u8 0), .lit (.int .u8 0)], .agg [.lit (.int .u8 0), .lit (.int .u8 0)], .agg [.lit (.int .u8 0), .lit (.int .u8 0)], .agg [.lit (.int .u8 0), .lit (.int .u8 0)], .agg [.lit (.int .u8 0), .lit (.int .u8 0)], .agg [.lit (.int .u8 0), .lit (.int .u8 0)], .agg [.lit (.int .u8 0), .lit (.int .u8 0)], .agg [.lit (.int .u8 0), .lit (.int .u8 0)], .agg [.lit (.int .u8 0), .lit (.int .u8 0)], .agg [.lit (.int .u8 0), .lit (.int .u8 0)], .agg [.lit (.int .u8 0), .lit (.int .u8 0)]]
def laid_strconv_ErrRange {H : Type} : DataW H := .iface "*errors.errorString" (.ptr (.agg [.lit (.string [118, 97, 108, 117, 101, 32, 111, 117, 116, 32, 111, 102, 32, 114, 97, 110, 103, 101])]))
def laid_strconv_ErrSyntax {H : Type} : DataW H := .iface "*errors.errorString" (.ptr (.agg [.lit (.string [105, 110, 118, 97, 108, 105, 100, 32, 115, 121, 110, 116, 97, 120])]))
def laid_pouch_fold_spans {H : Type} : DataW H := .slice [.agg [.lit (.int .i32 65), .lit (.int .i32 90), .lit (.int .i32 1), .lit (.int .i32 32)], .agg [.lit (.int .i32 192), .lit (.int .i32 214), .lit (.int .i32 1), .lit (.int .i32 32)], .agg [.lit (.int .i32 216), .lit (.int .i32 222), .lit (.int .i32 1), .lit (.int .i32 32)], .agg [.lit (.int .i32 256), .lit (.int .i32 303), .lit (.int .i32 2), .lit (.int .i32 1)], .agg [.lit (.int .i32 306), .lit (.int .i32 311), .lit (.int .i32 2), .lit (.int .i32 1)], .agg [.lit (.int .i32 313), .lit (.int .i32 328), .lit (.int .i32 2), .lit (.int .i32 1)], .agg [.lit (.int .i32 330), .lit (.int .i32 375), .lit (.int .i32 2), .lit (.int .i32 1)], .agg [.lit (.int .i32 376), .lit (.int .i32 376), .lit (.int .i32 1), .lit (.int .i32 (-121))], .agg [.lit (.int .i32 377), .lit (.int .i32 382), .lit (.int .i32 2), .lit (.int .i32 1)], .agg [.lit (.int .i32 902), .lit (.int .i32 902), .lit (.int .i32 1), .lit (.int .i32 38)], .agg [.lit (.int .i32 904), .lit (.int .i32 906), .lit (.int .i32 1), .lit (.int .i32 37)], .agg [.lit (.int .i32 908), .lit (.int .i32 908), .lit (.int .i32 1), .lit (.int .i32 64)], .agg [.lit (.int .i32 910), .lit (.int .i32 911), .lit (.int .i32 1), .lit (.int .i32 63)], .agg [.lit (.int .i32 913), .lit (.int .i32 929), .lit (.int .i32 1), .lit (.int .i32 32)], .agg [.lit (.int .i32 931), .lit (.int .i32 939), .lit (.int .i32 1), .lit (.int .i32 32)], .agg [.lit (.int .i32 1024), .lit (.int .i32 1039), .lit (.int .i32 1), .lit (.int .i32 80)], .agg [.lit (.int .i32 1040), .lit (.int .i32 1071), .lit (.int .i32 1), .lit (.int .i32 32)]] []
def laid_pouch_cut_spans {H : Type} : DataW H := .slice [.agg [.lit (.int .i64 215), .lit (.int .i64 215), .lit (.int .i64 0)], .agg [.lit (.int .i64 247), .lit (.int .i64 247), .lit (.int .i64 0)], .agg [.lit (.int .i64 8192), .lit (.int .i64 11263), .lit (.int .i64 0)], .agg [.lit (.int .i64 11904), .lit (.int .i64 12255), .lit (.int .i64 2)], .agg [.lit (.int .i64 12288), .lit (.int .i64 12351), .lit (.int .i64 0)], .agg [.lit (.int .i64 12353), .lit (.int .i64 12543), .lit (.int .i64 2)], .agg [.lit (.int .i64 12549), .lit (.int .i64 12591), .lit (.int .i64 2)], .agg [.lit (.int .i64 12593), .lit (.int .i64 12686), .lit (.int .i64 2)], .agg [.lit (.int .i64 13312), .lit (.int .i64 19903), .lit (.int .i64 2)], .agg [.lit (.int .i64 19968), .lit (.int .i64 40959), .lit (.int .i64 2)], .agg [.lit (.int .i64 44032), .lit (.int .i64 55203), .lit (.int .i64 2)], .agg [.lit (.int .i64 55296), .lit (.int .i64 63743), .lit (.int .i64 0)], .agg [.lit (.int .i64 63744), .lit (.int .i64 64255), .lit (.int .i64 2)], .agg [.lit (.int .i64 65024), .lit (.int .i64 65039), .lit (.int .i64 0)], .agg [.lit (.int .i64 65072), .lit (.int .i64 65135), .lit (.int .i64 0)], .agg [.lit (.int .i64 65280), .lit (.int .i64 65295), .lit (.int .i64 0)], .agg [.lit (.int .i64 65520), .lit (.int .i64 65535), .lit (.int .i64 0)], .agg [.lit (.int .i64 126976), .lit (.int .i64 129791), .lit (.int .i64 0)], .agg [.lit (.int .i64 131072), .lit (.int .i64 262143), .lit (.int .i64 2)]] []
def laid_pouch_query_fields {H : Type} : DataW H := .agg [.lit (.string []), .lit (.string [102, 114, 111, 109]), .lit (.string [116, 111]), .lit (.string [115, 117, 98, 106, 101, 99, 116]), .lit (.string [98, 111, 100, 121]), .lit (.string [102, 105, 108, 101])]
/-- One of Go's own tables, pinned by name: the form's constant. -/
def laid_unicode_utf8_first : DataW Unit := Go.Pinned.utf8First

/-- 'pouchlaw37.QueryReads': WHATEVER THE INPUT: true; the input reads as it did. -/
def queryReadsSpec : ChangeSpec := { name := "queryReads", fn := fun _ => fun
  | [d] => { results := [.lit (.bool true)], args := [d] }
  | _ => none }
def queryReadsRow : OpenClaim := { program := "ytomcdhmcjndioaagreatdoor", sum := "5109e1d45801153a813bd0dc3c8af9758bb24c88c86bcd9cf2c17a67ba992611", func := "pouch/pouchlaw37.QueryReads", spec := "queryReads", inPlace := ["internal/bytealg.IndexByteString", "internal/bytealg.IndexString", "internal/abi.NoEscape", "internal/bytealg.MakeNoZero", "internal/bytealg.CountString"], unfollowed := true, recurses := true, named := ["internal/bytealg.MaxLen", "pouch/query.fields", "pouch/fold.spans", "pouch/cut.spans", "strconv.ErrSyntax", "strconv.ErrRange", "internal/strconv.uint64pow10", "math/bits.deBruijn32tab", "math/bits.deBruijn64tab", "unicode/utf8.first", "unicode/utf8.acceptRanges"], apart := false, laid := [("math/bits.deBruijn32tab", laid_math_bits_deBruijn32tab), ("math/bits.deBruijn64tab", laid_math_bits_deBruijn64tab), ("internal/strconv.uint64pow10", laid_internal_strconv_uint64pow10), ("unicode/utf8.acceptRanges", laid_unicode_utf8_acceptRanges), ("strconv.ErrRange", laid_strconv_ErrRange), ("strconv.ErrSyntax", laid_strconv_ErrSyntax), ("pouch/fold.spans", laid_pouch_fold_spans), ("pouch/cut.spans", laid_pouch_cut_spans), ("pouch/query.fields", laid_pouch_query_fields), ("unicode/utf8.first", laid_unicode_utf8_first)] }
def QueryReadsSaid : Prop := queryReadsRow.holds Tryz.pinned (OpenSpec.ofChange queryReadsSpec)

/-- ITS FALSE NEIGHBOUR: 'it returns false'. Refute it at one input. -/
def queryReadsWrong : ChangeSpec := { name := "queryReads", fn := fun _ => fun
  | [d] => { results := [.lit (.bool false)], args := [d] }
  | _ => none }
def QueryReadsWrongFalsely : Prop := queryReadsRow.holds Tryz.pinned (OpenSpec.ofChange queryReadsWrong)

/-- 'pouchlaw37.QueryJoins': WHATEVER THE INPUT: true; the input reads as it did. -/
def queryJoinsSpec : ChangeSpec := { name := "queryJoins", fn := fun _ => fun
  | [d1, d2] => { results := [.lit (.bool true)], args := [d1, d2] }
  | _ => none }
def queryJoinsRow : OpenClaim := { program := "ytomcdhmcjndioaagreatdoor", sum := "5109e1d45801153a813bd0dc3c8af9758bb24c88c86bcd9cf2c17a67ba992611", func := "pouch/pouchlaw37.QueryJoins", spec := "queryJoins", inPlace := ["internal/bytealg.IndexByteString", "internal/bytealg.IndexString", "internal/abi.NoEscape", "internal/bytealg.MakeNoZero", "internal/bytealg.CountString"], unfollowed := true, recurses := true, named := ["internal/bytealg.MaxLen", "pouch/query.fields", "pouch/fold.spans", "pouch/cut.spans", "strconv.ErrSyntax", "strconv.ErrRange", "internal/strconv.uint64pow10", "math/bits.deBruijn32tab", "math/bits.deBruijn64tab", "unicode/utf8.first", "unicode/utf8.acceptRanges"], apart := false, laid := [("math/bits.deBruijn32tab", laid_math_bits_deBruijn32tab), ("math/bits.deBruijn64tab", laid_math_bits_deBruijn64tab), ("internal/strconv.uint64pow10", laid_internal_strconv_uint64pow10), ("unicode/utf8.acceptRanges", laid_unicode_utf8_acceptRanges), ("strconv.ErrRange", laid_strconv_ErrRange), ("strconv.ErrSyntax", laid_strconv_ErrSyntax), ("pouch/fold.spans", laid_pouch_fold_spans), ("pouch/cut.spans", laid_pouch_cut_spans), ("pouch/query.fields", laid_pouch_query_fields), ("unicode/utf8.first", laid_unicode_utf8_first)] }
def QueryJoinsSaid : Prop := queryJoinsRow.holds Tryz.pinned (OpenSpec.ofChange queryJoinsSpec)

/-- ITS FALSE NEIGHBOUR: 'it returns false'. Refute it at one input. -/
def queryJoinsWrong : ChangeSpec := { name := "queryJoins", fn := fun _ => fun
  | [d1, d2] => { results := [.lit (.bool false)], args := [d1, d2] }
  | _ => none }
def QueryJoinsWrongFalsely : Prop := queryJoinsRow.holds Tryz.pinned (OpenSpec.ofChange queryJoinsWrong)

/- THE SECOND FORM. 'bulk': how many values and letters a reading holds, each counted each time it is reached (what is shared counts as often as it is met; a slice's spare places count too). A statement '..UptoSaid' is the law's where the arguments, and the package variables that the reading takes, are together of bulk at most 1048576: NARROWER than '..Said'. Prove '..Said' where nothing that the law and all that it calls make is longer than what came in: it says more and counts as full. Else prove '..UptoSaid'. A law counts once. -/
mutual
def uptoBulk {H : Type} : DataW H → Nat
  | .lit (.string bytes) => bytes.length + 1
  | .lit _ => 1
  | .nil => 1
  | .ptr d => uptoBulk d + 1
  | .slice elems spare => uptoBulkAll elems + uptoBulkAll spare + 1
  | .agg parts => uptoBulkAll parts + 1
  | .iface _ d => uptoBulk d + 1
  | .map entries => uptoBulkEntries entries + 1
  | .held _ => 1
def uptoBulkAll {H : Type} : List (DataW H) → Nat
  | [] => 0
  | d :: r => uptoBulk d + uptoBulkAll r
def uptoBulkEntries {H : Type} : List (Lit × DataW H) → Nat
  | [] => 0
  | x :: r => uptoBulkEntry x + uptoBulkEntries r
def uptoBulkEntry {H : Type} : Lit × DataW H → Nat
  | (.string bytes, d) => bytes.length + uptoBulk d + 1
  | (_, d) => uptoBulk d + 1
 end
def uptoSmall : (H : Type) → List (DataW H) → Bool := fun _ ds => decide (uptoBulkAll ds ≤ 1048576)
def OpenSpec.upto (s : _root_.Go.ChangeSpec) : _root_.Go.OpenSpec := { _root_.Go.OpenSpec.ofChange s with cond := some uptoSmall }

/-- 'pouchlaw37.QueryReads', WHERE WHAT IT READS IS OF BULK AT MOST 1048576: true; the input reads as it did. -/
def queryReadsUptoRow : OpenClaim := { program := "ytomcdhmcjndioaagreatdoor", sum := "5109e1d45801153a813bd0dc3c8af9758bb24c88c86bcd9cf2c17a67ba992611", func := "pouch/pouchlaw37.QueryReads", spec := "queryReads", inPlace := ["internal/bytealg.IndexByteString", "internal/bytealg.IndexString", "internal/abi.NoEscape", "internal/bytealg.MakeNoZero", "internal/bytealg.CountString"], unfollowed := true, recurses := true, named := ["internal/bytealg.MaxLen", "pouch/query.fields", "pouch/fold.spans", "pouch/cut.spans", "strconv.ErrSyntax", "strconv.ErrRange", "internal/strconv.uint64pow10", "math/bits.deBruijn32tab", "math/bits.deBruijn64tab", "unicode/utf8.first", "unicode/utf8.acceptRanges"], apart := false, laid := [("math/bits.deBruijn32tab", laid_math_bits_deBruijn32tab), ("math/bits.deBruijn64tab", laid_math_bits_deBruijn64tab), ("internal/strconv.uint64pow10", laid_internal_strconv_uint64pow10), ("unicode/utf8.acceptRanges", laid_unicode_utf8_acceptRanges), ("strconv.ErrRange", laid_strconv_ErrRange), ("strconv.ErrSyntax", laid_strconv_ErrSyntax), ("pouch/fold.spans", laid_pouch_fold_spans), ("pouch/cut.spans", laid_pouch_cut_spans), ("pouch/query.fields", laid_pouch_query_fields), ("unicode/utf8.first", laid_unicode_utf8_first)], narrowed := true }
def QueryReadsUptoSaid : Prop := queryReadsUptoRow.holds Tryz.pinned (OpenSpec.upto queryReadsSpec)

/-- 'pouchlaw37.QueryJoins', WHERE WHAT IT READS IS OF BULK AT MOST 1048576: true; the input reads as it did. -/
def queryJoinsUptoRow : OpenClaim := { program := "ytomcdhmcjndioaagreatdoor", sum := "5109e1d45801153a813bd0dc3c8af9758bb24c88c86bcd9cf2c17a67ba992611", func := "pouch/pouchlaw37.QueryJoins", spec := "queryJoins", inPlace := ["internal/bytealg.IndexByteString", "internal/bytealg.IndexString", "internal/abi.NoEscape", "internal/bytealg.MakeNoZero", "internal/bytealg.CountString"], unfollowed := true, recurses := true, named := ["internal/bytealg.MaxLen", "pouch/query.fields", "pouch/fold.spans", "pouch/cut.spans", "strconv.ErrSyntax", "strconv.ErrRange", "internal/strconv.uint64pow10", "math/bits.deBruijn32tab", "math/bits.deBruijn64tab", "unicode/utf8.first", "unicode/utf8.acceptRanges"], apart := false, laid := [("math/bits.deBruijn32tab", laid_math_bits_deBruijn32tab), ("math/bits.deBruijn64tab", laid_math_bits_deBruijn64tab), ("internal/strconv.uint64pow10", laid_internal_strconv_uint64pow10), ("unicode/utf8.acceptRanges", laid_unicode_utf8_acceptRanges), ("strconv.ErrRange", laid_strconv_ErrRange), ("strconv.ErrSyntax", laid_strconv_ErrSyntax), ("pouch/fold.spans", laid_pouch_fold_spans), ("pouch/cut.spans", laid_pouch_cut_spans), ("pouch/query.fields", laid_pouch_query_fields), ("unicode/utf8.first", laid_unicode_utf8_first)], narrowed := true }
def QueryJoinsUptoSaid : Prop := queryJoinsUptoRow.holds Tryz.pinned (OpenSpec.upto queryJoinsSpec)

end Rows
end Go.Proofs.YtomcdhmcjndioaaGreatDoor
