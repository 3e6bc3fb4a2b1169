/-
  DERIVED. GIVEN WITH THE SEED: THE CARDS: each row of YtfinpehbpcckaaaGreatDoorRows.lean that lists a variable, with what it lists TIED to the program's text (the seventh form; the later family's looks); each row that meets fmt, with fmt's text TOLD by the authors' own Lean function (tested against real Go, not proved from fmt's source: count such statements apart). THE CARD IS WHAT COUNTS. Prove the row's statement (the work); the ties are given (YtfinpehbpcckaaaGreatDoorTie.lean); close each card by the builder's one call (the guide's Derived/Test/ToyasCard.lean, 'card_holds'). Laid BY PROGRAM, IN A SANDBOX (cutbox-door.mjs). By AI agents, Wed Nov 11 2026. No macro, syntax, notation, axiom, sorry.
-/
import Derived.Test.YtfinpehbpcckaaaGreatDoorRows
import GoSem.ClaimSeven
namespace Go.Proofs.YtfinpehbpcckaaaGreatDoor
namespace Rows

/-- THE TIED CARD OF 'pouchlaw34.SegmentBuilds'. -/
def segmentBuildsCard : Claim7 := { stood := { row := segmentBuildsRow, standIns := [], harness := (true, "2156cdd4731590b82178f69ca8aac98a51d566aaf2bde500618ad1c752bad3bf"), looks := false }, kinds := [], alts := [], laidByText := true, laidKinds := [.widerDeep, .widerDeep], laidTests := true, laidLooks := .later }
def SegmentBuildsCardSaid : Prop := Claim7.holds Tryz.pinned (.plain (OpenSpec.ofChange segmentBuildsSpec)) segmentBuildsCard

/-- THE TIED CARD OF 'pouchlaw34.SegmentTells'. -/
def segmentTellsCard : Claim7 := { stood := { row := segmentTellsRow, standIns := [], harness := (true, "2156cdd4731590b82178f69ca8aac98a51d566aaf2bde500618ad1c752bad3bf"), looks := false }, kinds := [], alts := [], laidByText := true, laidKinds := [.widerDeep, .widerDeep], laidTests := true, laidLooks := .later }
def SegmentTellsCardSaid : Prop := Claim7.holds Tryz.pinned (.plain (OpenSpec.ofChange segmentTellsSpec)) segmentTellsCard

/-- THE TIED CARD OF 'pouchlaw34.SegmentFinds'. -/
def segmentFindsCard : Claim7 := { stood := { row := segmentFindsRow, standIns := [], harness := (true, "2156cdd4731590b82178f69ca8aac98a51d566aaf2bde500618ad1c752bad3bf"), looks := false }, kinds := [], alts := [], laidByText := true, laidKinds := [.widerDeep, .widerDeep], laidTests := true, laidLooks := .later }
def SegmentFindsCardSaid : Prop := Claim7.holds Tryz.pinned (.plain (OpenSpec.ofChange segmentFindsSpec)) segmentFindsCard

/-- THE TIED CARD OF 'pouchlaw34.SegmentOrder'. -/
def segmentOrderCard : Claim7 := { stood := { row := segmentOrderRow, standIns := [], harness := (true, "2156cdd4731590b82178f69ca8aac98a51d566aaf2bde500618ad1c752bad3bf"), looks := false }, kinds := [], alts := [], laidByText := true, laidKinds := [.widerDeep, .widerDeep], laidTests := true, laidLooks := .later }
def SegmentOrderCardSaid : Prop := Claim7.holds Tryz.pinned (.plain (OpenSpec.ofChange segmentOrderSpec)) segmentOrderCard

/-- THE TIED CARD OF 'pouchlaw34.SegmentPrefixes'. -/
def segmentPrefixesCard : Claim7 := { stood := { row := segmentPrefixesRow, standIns := [], harness := (true, "2156cdd4731590b82178f69ca8aac98a51d566aaf2bde500618ad1c752bad3bf"), looks := false }, kinds := [], alts := [], laidByText := true, laidKinds := [.widerDeep, .widerDeep], laidTests := true, laidLooks := .later }
def SegmentPrefixesCardSaid : Prop := Claim7.holds Tryz.pinned (.plain (OpenSpec.ofChange segmentPrefixesSpec)) segmentPrefixesCard

/-- THE TIED CARD OF 'pouchlaw34.SegmentPhrases'. -/
def segmentPhrasesCard : Claim7 := { stood := { row := segmentPhrasesRow, standIns := [], harness := (true, "2156cdd4731590b82178f69ca8aac98a51d566aaf2bde500618ad1c752bad3bf"), looks := false }, kinds := [], alts := [], laidByText := true, laidKinds := [.widerDeep, .widerDeep], laidTests := true, laidLooks := .later }
def SegmentPhrasesCardSaid : Prop := Claim7.holds Tryz.pinned (.plain (OpenSpec.ofChange segmentPhrasesSpec)) segmentPhrasesCard

/-- THE SECOND FORM's CARD OF 'pouchlaw34.SegmentBuilds'. -/
def segmentBuildsUptoCard : Claim7 := { stood := { row := segmentBuildsUptoRow, standIns := [], harness := (true, "2156cdd4731590b82178f69ca8aac98a51d566aaf2bde500618ad1c752bad3bf"), looks := false }, kinds := [], alts := [], laidByText := true, laidKinds := [.widerDeep, .widerDeep], laidTests := true, laidLooks := .later }
def SegmentBuildsUptoCardSaid : Prop := Claim7.holds Tryz.pinned (.plain (OpenSpec.upto segmentBuildsSpec)) segmentBuildsUptoCard

/-- THE SECOND FORM's CARD OF 'pouchlaw34.SegmentTells'. -/
def segmentTellsUptoCard : Claim7 := { stood := { row := segmentTellsUptoRow, standIns := [], harness := (true, "2156cdd4731590b82178f69ca8aac98a51d566aaf2bde500618ad1c752bad3bf"), looks := false }, kinds := [], alts := [], laidByText := true, laidKinds := [.widerDeep, .widerDeep], laidTests := true, laidLooks := .later }
def SegmentTellsUptoCardSaid : Prop := Claim7.holds Tryz.pinned (.plain (OpenSpec.upto segmentTellsSpec)) segmentTellsUptoCard

/-- THE SECOND FORM's CARD OF 'pouchlaw34.SegmentFinds'. -/
def segmentFindsUptoCard : Claim7 := { stood := { row := segmentFindsUptoRow, standIns := [], harness := (true, "2156cdd4731590b82178f69ca8aac98a51d566aaf2bde500618ad1c752bad3bf"), looks := false }, kinds := [], alts := [], laidByText := true, laidKinds := [.widerDeep, .widerDeep], laidTests := true, laidLooks := .later }
def SegmentFindsUptoCardSaid : Prop := Claim7.holds Tryz.pinned (.plain (OpenSpec.upto segmentFindsSpec)) segmentFindsUptoCard

/-- THE SECOND FORM's CARD OF 'pouchlaw34.SegmentOrder'. -/
def segmentOrderUptoCard : Claim7 := { stood := { row := segmentOrderUptoRow, standIns := [], harness := (true, "2156cdd4731590b82178f69ca8aac98a51d566aaf2bde500618ad1c752bad3bf"), looks := false }, kinds := [], alts := [], laidByText := true, laidKinds := [.widerDeep, .widerDeep], laidTests := true, laidLooks := .later }
def SegmentOrderUptoCardSaid : Prop := Claim7.holds Tryz.pinned (.plain (OpenSpec.upto segmentOrderSpec)) segmentOrderUptoCard

/-- THE SECOND FORM's CARD OF 'pouchlaw34.SegmentPrefixes'. -/
def segmentPrefixesUptoCard : Claim7 := { stood := { row := segmentPrefixesUptoRow, standIns := [], harness := (true, "2156cdd4731590b82178f69ca8aac98a51d566aaf2bde500618ad1c752bad3bf"), looks := false }, kinds := [], alts := [], laidByText := true, laidKinds := [.widerDeep, .widerDeep], laidTests := true, laidLooks := .later }
def SegmentPrefixesUptoCardSaid : Prop := Claim7.holds Tryz.pinned (.plain (OpenSpec.upto segmentPrefixesSpec)) segmentPrefixesUptoCard

/-- THE SECOND FORM's CARD OF 'pouchlaw34.SegmentPhrases'. -/
def segmentPhrasesUptoCard : Claim7 := { stood := { row := segmentPhrasesUptoRow, standIns := [], harness := (true, "2156cdd4731590b82178f69ca8aac98a51d566aaf2bde500618ad1c752bad3bf"), looks := false }, kinds := [], alts := [], laidByText := true, laidKinds := [.widerDeep, .widerDeep], laidTests := true, laidLooks := .later }
def SegmentPhrasesUptoCardSaid : Prop := Claim7.holds Tryz.pinned (.plain (OpenSpec.upto segmentPhrasesSpec)) segmentPhrasesUptoCard
end Rows
end Go.Proofs.YtfinpehbpcckaaaGreatDoor
