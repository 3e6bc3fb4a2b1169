/-
  DERIVED. GIVEN WITH THE SEED: THE CARDS: each row of YtomcdhmcjndioaaGreatDoorRows.lean that lists a variable, with what it lists TIED to the program's text (the seventh form; the later family's looks); each row that meets fmt, with fmt's text TOLD by the authors' own Lean function (tested against real Go, not proved from fmt's source: count such statements apart). THE CARD IS WHAT COUNTS. Prove the row's statement (the work); the ties are given (YtomcdhmcjndioaaGreatDoorTie.lean); close each card by the builder's one call (the guide's Derived/Test/ToyasCard.lean, 'card_holds'). Laid BY PROGRAM, IN A SANDBOX (cutbox-door.mjs). By AI agents, Wed Nov 11 2026. No macro, syntax, notation, axiom, sorry.
-/
import Derived.Test.YtomcdhmcjndioaaGreatDoorRows
import GoSem.ClaimSeven
namespace Go.Proofs.YtomcdhmcjndioaaGreatDoor
namespace Rows

/-- THE TIED CARD OF 'pouchlaw37.QueryReads'. -/
def queryReadsCard : Claim7 := { stood := { row := queryReadsRow, standIns := [], harness := (true, "c6be300f185f5632fe71cea2f2d9cb73d02de25ba76a12eaeb8939ccf507fd8c"), looks := true }, kinds := [], alts := [], laidByText := true, laidKinds := [.data, .data, .data, .data, .sentinel, .sentinel, .widerDeep, .widerDeep, .widerDeep, .pinned], laidTests := true, laidLooks := .later }
def QueryReadsCardSaid : Prop := Claim7.holds Tryz.pinned (.plain (OpenSpec.ofChange queryReadsSpec)) queryReadsCard

/-- THE TIED CARD OF 'pouchlaw37.QueryJoins'. -/
def queryJoinsCard : Claim7 := { stood := { row := queryJoinsRow, standIns := [], harness := (true, "c6be300f185f5632fe71cea2f2d9cb73d02de25ba76a12eaeb8939ccf507fd8c"), looks := true }, kinds := [], alts := [], laidByText := true, laidKinds := [.data, .data, .data, .data, .sentinel, .sentinel, .widerDeep, .widerDeep, .widerDeep, .pinned], laidTests := true, laidLooks := .later }
def QueryJoinsCardSaid : Prop := Claim7.holds Tryz.pinned (.plain (OpenSpec.ofChange queryJoinsSpec)) queryJoinsCard

/-- THE SECOND FORM's CARD OF 'pouchlaw37.QueryReads'. -/
def queryReadsUptoCard : Claim7 := { stood := { row := queryReadsUptoRow, standIns := [], harness := (true, "c6be300f185f5632fe71cea2f2d9cb73d02de25ba76a12eaeb8939ccf507fd8c"), looks := true }, kinds := [], alts := [], laidByText := true, laidKinds := [.data, .data, .data, .data, .sentinel, .sentinel, .widerDeep, .widerDeep, .widerDeep, .pinned], laidTests := true, laidLooks := .later }
def QueryReadsUptoCardSaid : Prop := Claim7.holds Tryz.pinned (.plain (OpenSpec.upto queryReadsSpec)) queryReadsUptoCard

/-- THE SECOND FORM's CARD OF 'pouchlaw37.QueryJoins'. -/
def queryJoinsUptoCard : Claim7 := { stood := { row := queryJoinsUptoRow, standIns := [], harness := (true, "c6be300f185f5632fe71cea2f2d9cb73d02de25ba76a12eaeb8939ccf507fd8c"), looks := true }, kinds := [], alts := [], laidByText := true, laidKinds := [.data, .data, .data, .data, .sentinel, .sentinel, .widerDeep, .widerDeep, .widerDeep, .pinned], laidTests := true, laidLooks := .later }
def QueryJoinsUptoCardSaid : Prop := Claim7.holds Tryz.pinned (.plain (OpenSpec.upto queryJoinsSpec)) queryJoinsUptoCard
end Rows
end Go.Proofs.YtomcdhmcjndioaaGreatDoor
