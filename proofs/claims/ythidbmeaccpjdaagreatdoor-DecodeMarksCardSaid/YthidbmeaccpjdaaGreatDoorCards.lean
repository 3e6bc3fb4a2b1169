/-
  DERIVED. GIVEN WITH THE SEED: THE CARDS: each row of YthidbmeaccpjdaaGreatDoorRows.lean that lists a variable, with what it lists TIED to the program's text (the seventh form; the later family's looks); each row that meets fmt, with fmt's text TOLD by the authors' own Lean function (tested against real Go, not proved from fmt's source: count such statements apart). THE CARD IS WHAT COUNTS. Prove the row's statement (the work); the ties are given (YthidbmeaccpjdaaGreatDoorTie.lean); close each card by the builder's one call (the guide's Derived/Test/ToyasCard.lean, 'card_holds'). Laid BY PROGRAM, IN A SANDBOX (cutbox-door.mjs). By AI agents, Wed Nov 11 2026. No macro, syntax, notation, axiom, sorry.
-/
import Derived.Test.YthidbmeaccpjdaaGreatDoorRows
import GoSem.ClaimSeven
namespace Go.Proofs.YthidbmeaccpjdaaGreatDoor
namespace Rows

/-- THE TIED CARD OF 'pouchlaw15.DecodeTells'. -/
def decodeTellsCard : Claim7 := { stood := { row := decodeTellsRow, standIns := [], harness := (true, "43bcf29428bc4bf857b26fee8479ed2c5a84347d49df2d1aabc0798b25839179"), looks := true }, kinds := [], alts := [], laidByText := true, laidKinds := [.data, .data, .data, .data, .sentinel, .sentinel, .mapped, .pinned], laidTests := true, laidLooks := .later }
def DecodeTellsCardSaid : Prop := Claim7.holds Tryz.pinned (.plain (OpenSpec.ofChange decodeTellsSpec)) decodeTellsCard

/-- THE TIED CARD OF 'pouchlaw15.DecodeStrips'. -/
def decodeStripsCard : Claim7 := { stood := { row := decodeStripsRow, standIns := [], harness := (true, "43bcf29428bc4bf857b26fee8479ed2c5a84347d49df2d1aabc0798b25839179"), looks := true }, kinds := [], alts := [], laidByText := true, laidKinds := [.data, .data, .data, .data, .sentinel, .sentinel, .mapped, .pinned], laidTests := true, laidLooks := .later }
def DecodeStripsCardSaid : Prop := Claim7.holds Tryz.pinned (.plain (OpenSpec.ofChange decodeStripsSpec)) decodeStripsCard

/-- THE TIED CARD OF 'pouchlaw15.DecodeCuts'. -/
def decodeCutsCard : Claim7 := { stood := { row := decodeCutsRow, standIns := [], harness := (true, "43bcf29428bc4bf857b26fee8479ed2c5a84347d49df2d1aabc0798b25839179"), looks := true }, kinds := [], alts := [], laidByText := true, laidKinds := [.data, .data, .data, .data, .sentinel, .sentinel, .mapped, .pinned], laidTests := true, laidLooks := .later }
def DecodeCutsCardSaid : Prop := Claim7.holds Tryz.pinned (.plain (OpenSpec.ofChange decodeCutsSpec)) decodeCutsCard

/-- THE TIED CARD OF 'pouchlaw15.DecodeBack'. -/
def decodeBackCard : Claim7 := { stood := { row := decodeBackRow, standIns := [], harness := (true, "43bcf29428bc4bf857b26fee8479ed2c5a84347d49df2d1aabc0798b25839179"), looks := true }, kinds := [], alts := [], laidByText := true, laidKinds := [.data, .data, .data, .data, .sentinel, .sentinel, .mapped, .pinned], laidTests := true, laidLooks := .later }
def DecodeBackCardSaid : Prop := Claim7.holds Tryz.pinned (.plain (OpenSpec.ofChange decodeBackSpec)) decodeBackCard

/-- THE TIED CARD OF 'pouchlaw15.DecodeMarks'. -/
def decodeMarksCard : Claim7 := { stood := { row := decodeMarksRow, standIns := [], harness := (true, "43bcf29428bc4bf857b26fee8479ed2c5a84347d49df2d1aabc0798b25839179"), looks := true }, kinds := [], alts := [], laidByText := true, laidKinds := [.data, .data, .data, .data, .sentinel, .sentinel, .mapped, .pinned], laidTests := true, laidLooks := .later }
def DecodeMarksCardSaid : Prop := Claim7.holds Tryz.pinned (.plain (OpenSpec.ofChange decodeMarksSpec)) decodeMarksCard

/-- THE TIED CARD OF 'pouchlaw15.DecodeNames'. -/
def decodeNamesCard : Claim7 := { stood := { row := decodeNamesRow, standIns := [], harness := (true, "43bcf29428bc4bf857b26fee8479ed2c5a84347d49df2d1aabc0798b25839179"), looks := true }, kinds := [], alts := [], laidByText := true, laidKinds := [.data, .data, .data, .data, .sentinel, .sentinel, .mapped, .pinned, .pinned], laidTests := true, laidLooks := .later }
def DecodeNamesCardSaid : Prop := Claim7.holds Tryz.pinned (.plain (OpenSpec.ofChange decodeNamesSpec)) decodeNamesCard

/-- THE TIED CARD OF 'pouchlaw15.DecodeParts'. -/
def decodePartsCard : Claim7 := { stood := { row := decodePartsRow, standIns := [], harness := (true, "43bcf29428bc4bf857b26fee8479ed2c5a84347d49df2d1aabc0798b25839179"), looks := true }, kinds := [], alts := [], laidByText := true, laidKinds := [.data, .data, .data, .data, .sentinel, .sentinel, .mapped, .pinned, .pinned], laidTests := true, laidLooks := .later }
def DecodePartsCardSaid : Prop := Claim7.holds Tryz.pinned (.plain (OpenSpec.ofChange decodePartsSpec)) decodePartsCard

/-- THE SECOND FORM's CARD OF 'pouchlaw15.DecodeTells'. -/
def decodeTellsUptoCard : Claim7 := { stood := { row := decodeTellsUptoRow, standIns := [], harness := (true, "43bcf29428bc4bf857b26fee8479ed2c5a84347d49df2d1aabc0798b25839179"), looks := true }, kinds := [], alts := [], laidByText := true, laidKinds := [.data, .data, .data, .data, .sentinel, .sentinel, .mapped, .pinned], laidTests := true, laidLooks := .later }
def DecodeTellsUptoCardSaid : Prop := Claim7.holds Tryz.pinned (.plain (OpenSpec.upto decodeTellsSpec)) decodeTellsUptoCard

/-- THE SECOND FORM's CARD OF 'pouchlaw15.DecodeStrips'. -/
def decodeStripsUptoCard : Claim7 := { stood := { row := decodeStripsUptoRow, standIns := [], harness := (true, "43bcf29428bc4bf857b26fee8479ed2c5a84347d49df2d1aabc0798b25839179"), looks := true }, kinds := [], alts := [], laidByText := true, laidKinds := [.data, .data, .data, .data, .sentinel, .sentinel, .mapped, .pinned], laidTests := true, laidLooks := .later }
def DecodeStripsUptoCardSaid : Prop := Claim7.holds Tryz.pinned (.plain (OpenSpec.upto decodeStripsSpec)) decodeStripsUptoCard

/-- THE SECOND FORM's CARD OF 'pouchlaw15.DecodeCuts'. -/
def decodeCutsUptoCard : Claim7 := { stood := { row := decodeCutsUptoRow, standIns := [], harness := (true, "43bcf29428bc4bf857b26fee8479ed2c5a84347d49df2d1aabc0798b25839179"), looks := true }, kinds := [], alts := [], laidByText := true, laidKinds := [.data, .data, .data, .data, .sentinel, .sentinel, .mapped, .pinned], laidTests := true, laidLooks := .later }
def DecodeCutsUptoCardSaid : Prop := Claim7.holds Tryz.pinned (.plain (OpenSpec.upto decodeCutsSpec)) decodeCutsUptoCard

/-- THE SECOND FORM's CARD OF 'pouchlaw15.DecodeBack'. -/
def decodeBackUptoCard : Claim7 := { stood := { row := decodeBackUptoRow, standIns := [], harness := (true, "43bcf29428bc4bf857b26fee8479ed2c5a84347d49df2d1aabc0798b25839179"), looks := true }, kinds := [], alts := [], laidByText := true, laidKinds := [.data, .data, .data, .data, .sentinel, .sentinel, .mapped, .pinned], laidTests := true, laidLooks := .later }
def DecodeBackUptoCardSaid : Prop := Claim7.holds Tryz.pinned (.plain (OpenSpec.upto decodeBackSpec)) decodeBackUptoCard

/-- THE SECOND FORM's CARD OF 'pouchlaw15.DecodeMarks'. -/
def decodeMarksUptoCard : Claim7 := { stood := { row := decodeMarksUptoRow, standIns := [], harness := (true, "43bcf29428bc4bf857b26fee8479ed2c5a84347d49df2d1aabc0798b25839179"), looks := true }, kinds := [], alts := [], laidByText := true, laidKinds := [.data, .data, .data, .data, .sentinel, .sentinel, .mapped, .pinned], laidTests := true, laidLooks := .later }
def DecodeMarksUptoCardSaid : Prop := Claim7.holds Tryz.pinned (.plain (OpenSpec.upto decodeMarksSpec)) decodeMarksUptoCard

/-- THE SECOND FORM's CARD OF 'pouchlaw15.DecodeNames'. -/
def decodeNamesUptoCard : Claim7 := { stood := { row := decodeNamesUptoRow, standIns := [], harness := (true, "43bcf29428bc4bf857b26fee8479ed2c5a84347d49df2d1aabc0798b25839179"), looks := true }, kinds := [], alts := [], laidByText := true, laidKinds := [.data, .data, .data, .data, .sentinel, .sentinel, .mapped, .pinned, .pinned], laidTests := true, laidLooks := .later }
def DecodeNamesUptoCardSaid : Prop := Claim7.holds Tryz.pinned (.plain (OpenSpec.upto decodeNamesSpec)) decodeNamesUptoCard

/-- THE SECOND FORM's CARD OF 'pouchlaw15.DecodeParts'. -/
def decodePartsUptoCard : Claim7 := { stood := { row := decodePartsUptoRow, standIns := [], harness := (true, "43bcf29428bc4bf857b26fee8479ed2c5a84347d49df2d1aabc0798b25839179"), looks := true }, kinds := [], alts := [], laidByText := true, laidKinds := [.data, .data, .data, .data, .sentinel, .sentinel, .mapped, .pinned, .pinned], laidTests := true, laidLooks := .later }
def DecodePartsUptoCardSaid : Prop := Claim7.holds Tryz.pinned (.plain (OpenSpec.upto decodePartsSpec)) decodePartsUptoCard
end Rows
end Go.Proofs.YthidbmeaccpjdaaGreatDoor
