/-
  DERIVED. GIVEN WITH THE SEED: THE CARDS: each row of YtnpgnohlcphfnaaGreatDoorRows.lean that lists a variable, with what it lists TIED to the program's text (the seventh form; the later family's looks); each row that meets fmt, with fmt's text TOLD by the authors' own Lean function (tested against real Go, not proved from fmt's source: count such statements apart). THE CARD IS WHAT COUNTS. Prove the row's statement (the work); the ties are given (YtnpgnohlcphfnaaGreatDoorTie.lean); close each card by the builder's one call (the guide's Derived/Test/ToyasCard.lean, 'card_holds'). Laid BY PROGRAM, IN A SANDBOX (cutbox-door.mjs). By AI agents, Wed Nov 11 2026. No macro, syntax, notation, axiom, sorry.
-/
import Derived.Test.YtnpgnohlcphfnaaGreatDoorRows
import GoSem.ClaimSeven
namespace Go.Proofs.YtnpgnohlcphfnaaGreatDoor
namespace Rows

/-- THE TIED CARD OF 'pouchlaw12.CtypeTells'. -/
def ctypeTellsCard : Claim7 := { stood := { row := ctypeTellsRow, standIns := [], harness := (true, "76c6aae8f25ba2b34ea0d0b53abf93753cb7233909381002fdda567e73c6de79"), looks := true }, kinds := [], alts := [], laidByText := true, laidKinds := [.data, .data, .data, .data, .sentinel, .sentinel, .pinned, .pinned], laidTests := true, laidLooks := .later }
def CtypeTellsCardSaid : Prop := Claim7.holds Tryz.pinned (.plain (OpenSpec.ofChange ctypeTellsSpec)) ctypeTellsCard

/-- THE TIED CARD OF 'pouchlaw12.CtypeWrites'. -/
def ctypeWritesCard : Claim7 := { stood := { row := ctypeWritesRow, standIns := [], harness := (true, "76c6aae8f25ba2b34ea0d0b53abf93753cb7233909381002fdda567e73c6de79"), looks := true }, kinds := [], alts := [], laidByText := true, laidKinds := [.data, .data, .data, .data, .sentinel, .sentinel, .pinned, .pinned], laidTests := true, laidLooks := .later }
def CtypeWritesCardSaid : Prop := Claim7.holds Tryz.pinned (.plain (OpenSpec.ofChange ctypeWritesSpec)) ctypeWritesCard

/-- THE TIED CARD OF 'pouchlaw12.CtypeSections'. -/
def ctypeSectionsCard : Claim7 := { stood := { row := ctypeSectionsRow, standIns := [], harness := (true, "76c6aae8f25ba2b34ea0d0b53abf93753cb7233909381002fdda567e73c6de79"), looks := true }, kinds := [], alts := [], laidByText := true, laidKinds := [.data, .data, .data, .data, .sentinel, .sentinel, .pinned, .pinned], laidTests := true, laidLooks := .later }
def CtypeSectionsCardSaid : Prop := Claim7.holds Tryz.pinned (.plain (OpenSpec.ofChange ctypeSectionsSpec)) ctypeSectionsCard

/-- THE TIED CARD OF 'pouchlaw12.CtypeBack'. -/
def ctypeBackCard : Claim7 := { stood := { row := ctypeBackRow, standIns := [], harness := (true, "76c6aae8f25ba2b34ea0d0b53abf93753cb7233909381002fdda567e73c6de79"), looks := true }, kinds := [], alts := [], laidByText := true, laidKinds := [.data, .data, .data, .data, .sentinel, .sentinel, .pinned, .pinned], laidTests := true, laidLooks := .later }
def CtypeBackCardSaid : Prop := Claim7.holds Tryz.pinned (.plain (OpenSpec.ofChange ctypeBackSpec)) ctypeBackCard

/-- THE TIED CARD OF 'pouchlaw12.CtypeFolds'. -/
def ctypeFoldsCard : Claim7 := { stood := { row := ctypeFoldsRow, standIns := [], harness := (true, "76c6aae8f25ba2b34ea0d0b53abf93753cb7233909381002fdda567e73c6de79"), looks := true }, kinds := [], alts := [], laidByText := true, laidKinds := [.data, .data, .data, .data, .sentinel, .sentinel, .pinned, .pinned], laidTests := true, laidLooks := .later }
def CtypeFoldsCardSaid : Prop := Claim7.holds Tryz.pinned (.plain (OpenSpec.ofChange ctypeFoldsSpec)) ctypeFoldsCard

/-- THE SECOND FORM's CARD OF 'pouchlaw12.CtypeTells'. -/
def ctypeTellsUptoCard : Claim7 := { stood := { row := ctypeTellsUptoRow, standIns := [], harness := (true, "76c6aae8f25ba2b34ea0d0b53abf93753cb7233909381002fdda567e73c6de79"), looks := true }, kinds := [], alts := [], laidByText := true, laidKinds := [.data, .data, .data, .data, .sentinel, .sentinel, .pinned, .pinned], laidTests := true, laidLooks := .later }
def CtypeTellsUptoCardSaid : Prop := Claim7.holds Tryz.pinned (.plain (OpenSpec.upto ctypeTellsSpec)) ctypeTellsUptoCard

/-- THE SECOND FORM's CARD OF 'pouchlaw12.CtypeWrites'. -/
def ctypeWritesUptoCard : Claim7 := { stood := { row := ctypeWritesUptoRow, standIns := [], harness := (true, "76c6aae8f25ba2b34ea0d0b53abf93753cb7233909381002fdda567e73c6de79"), looks := true }, kinds := [], alts := [], laidByText := true, laidKinds := [.data, .data, .data, .data, .sentinel, .sentinel, .pinned, .pinned], laidTests := true, laidLooks := .later }
def CtypeWritesUptoCardSaid : Prop := Claim7.holds Tryz.pinned (.plain (OpenSpec.upto ctypeWritesSpec)) ctypeWritesUptoCard

/-- THE SECOND FORM's CARD OF 'pouchlaw12.CtypeSections'. -/
def ctypeSectionsUptoCard : Claim7 := { stood := { row := ctypeSectionsUptoRow, standIns := [], harness := (true, "76c6aae8f25ba2b34ea0d0b53abf93753cb7233909381002fdda567e73c6de79"), looks := true }, kinds := [], alts := [], laidByText := true, laidKinds := [.data, .data, .data, .data, .sentinel, .sentinel, .pinned, .pinned], laidTests := true, laidLooks := .later }
def CtypeSectionsUptoCardSaid : Prop := Claim7.holds Tryz.pinned (.plain (OpenSpec.upto ctypeSectionsSpec)) ctypeSectionsUptoCard

/-- THE SECOND FORM's CARD OF 'pouchlaw12.CtypeBack'. -/
def ctypeBackUptoCard : Claim7 := { stood := { row := ctypeBackUptoRow, standIns := [], harness := (true, "76c6aae8f25ba2b34ea0d0b53abf93753cb7233909381002fdda567e73c6de79"), looks := true }, kinds := [], alts := [], laidByText := true, laidKinds := [.data, .data, .data, .data, .sentinel, .sentinel, .pinned, .pinned], laidTests := true, laidLooks := .later }
def CtypeBackUptoCardSaid : Prop := Claim7.holds Tryz.pinned (.plain (OpenSpec.upto ctypeBackSpec)) ctypeBackUptoCard

/-- THE SECOND FORM's CARD OF 'pouchlaw12.CtypeFolds'. -/
def ctypeFoldsUptoCard : Claim7 := { stood := { row := ctypeFoldsUptoRow, standIns := [], harness := (true, "76c6aae8f25ba2b34ea0d0b53abf93753cb7233909381002fdda567e73c6de79"), looks := true }, kinds := [], alts := [], laidByText := true, laidKinds := [.data, .data, .data, .data, .sentinel, .sentinel, .pinned, .pinned], laidTests := true, laidLooks := .later }
def CtypeFoldsUptoCardSaid : Prop := Claim7.holds Tryz.pinned (.plain (OpenSpec.upto ctypeFoldsSpec)) ctypeFoldsUptoCard
end Rows
end Go.Proofs.YtnpgnohlcphfnaaGreatDoor
