/-
  DERIVED. GIVEN WITH THE SEED: THE CARDS: each row of YtolkpoeioagibaaGreatDoorRows.lean that lists a variable, with what it lists TIED to the program's text (the seventh form; the later family's looks); each row that meets fmt, with fmt's text TOLD by the authors' own Lean function (tested against real Go, not proved from fmt's source: count such statements apart). THE CARD IS WHAT COUNTS. Prove the row's statement (the work); the ties are given (YtolkpoeioagibaaGreatDoorTie.lean); close each card by the builder's one call (the guide's Derived/Test/ToyasCard.lean, 'card_holds'). Laid BY PROGRAM, IN A SANDBOX (cutbox-door.mjs). By AI agents, Wed Nov 11 2026. No macro, syntax, notation, axiom, sorry.
-/
import Derived.Test.YtolkpoeioagibaaGreatDoorRows
import GoSem.ClaimSeven
namespace Go.Proofs.YtolkpoeioagibaaGreatDoor
namespace Rows

/-- THE TIED CARD OF 'cardcaselaw07.EntryDoes'. -/
def entryDoesCard : Claim7 := { stood := { row := entryDoesRow, standIns := [], harness := (true, "50e4754251813c10f565251bd7064b64b9978502f0b8e6034c86890fe2975e00"), looks := true }, kinds := [], alts := [], laidByText := true, laidKinds := [.data, .data, .data], laidTests := true, laidLooks := .later }
def EntryDoesCardSaid : Prop := Claim7.holds Tryz.pinned (.plain (OpenSpec.ofChange entryDoesSpec)) entryDoesCard

/-- THE TIED CARD OF 'cardcaselaw07.EntryOrder'. -/
def entryOrderCard : Claim7 := { stood := { row := entryOrderRow, standIns := [], harness := (true, "50e4754251813c10f565251bd7064b64b9978502f0b8e6034c86890fe2975e00"), looks := true }, kinds := [], alts := [], laidByText := true, laidKinds := [.data, .data, .data], laidTests := true, laidLooks := .later }
def EntryOrderCardSaid : Prop := Claim7.holds Tryz.pinned (.plain (OpenSpec.ofChange entryOrderSpec)) entryOrderCard

/-- THE TIED CARD OF 'cardcaselaw07.EntryDiffs'. -/
def entryDiffsCard : Claim7 := { stood := { row := entryDiffsRow, standIns := [], harness := (true, "50e4754251813c10f565251bd7064b64b9978502f0b8e6034c86890fe2975e00"), looks := true }, kinds := [], alts := [], laidByText := true, laidKinds := [.data, .data, .data], laidTests := true, laidLooks := .later }
def EntryDiffsCardSaid : Prop := Claim7.holds Tryz.pinned (.plain (OpenSpec.ofChange entryDiffsSpec)) entryDiffsCard

/-- THE TIED CARD OF 'cardcaselaw07.EntryBackAgain'. -/
def entryBackAgainCard : Claim7 := { stood := { row := entryBackAgainRow, standIns := [], harness := (true, "50e4754251813c10f565251bd7064b64b9978502f0b8e6034c86890fe2975e00"), looks := true }, kinds := [], alts := [], laidByText := true, laidKinds := [.data, .data, .data], laidTests := true, laidLooks := .later }
def EntryBackAgainCardSaid : Prop := Claim7.holds Tryz.pinned (.plain (OpenSpec.ofChange entryBackAgainSpec)) entryBackAgainCard

/-- THE TIED CARD OF 'cardcaselaw07.EntryOne'. -/
def entryOneCard : Claim7 := { stood := { row := entryOneRow, standIns := [], harness := (true, "50e4754251813c10f565251bd7064b64b9978502f0b8e6034c86890fe2975e00"), looks := true }, kinds := [], alts := [], laidByText := true, laidKinds := [.data, .data, .data], laidTests := true, laidLooks := .later }
def EntryOneCardSaid : Prop := Claim7.holds Tryz.pinned (.plain (OpenSpec.ofChange entryOneSpec)) entryOneCard

/-- THE TIED CARD OF 'cardcaselaw07.EntrySame'. -/
def entrySameCard : Claim7 := { stood := { row := entrySameRow, standIns := [], harness := (true, "50e4754251813c10f565251bd7064b64b9978502f0b8e6034c86890fe2975e00"), looks := true }, kinds := [], alts := [], laidByText := true, laidKinds := [.data, .data, .data], laidTests := true, laidLooks := .later }
def EntrySameCardSaid : Prop := Claim7.holds Tryz.pinned (.plain (OpenSpec.ofChange entrySameSpec)) entrySameCard

/-- THE TIED CARD OF 'cardcaselaw07.EntryTexts'. -/
def entryTextsCard : Claim7 := { stood := { row := entryTextsRow, standIns := [], harness := (true, "50e4754251813c10f565251bd7064b64b9978502f0b8e6034c86890fe2975e00"), looks := true }, kinds := [], alts := [], laidByText := true, laidKinds := [.data, .data, .data, .sentinel, .sentinel], laidTests := true, laidLooks := .later }
def EntryTextsCardSaid : Prop := Claim7.holds Tryz.pinned (.plain (OpenSpec.ofChange entryTextsSpec)) entryTextsCard

/-- THE TIED CARD OF 'cardcaselaw07.EntryReads'. -/
def entryReadsCard : Claim7 := { stood := { row := entryReadsRow, standIns := [], harness := (true, "50e4754251813c10f565251bd7064b64b9978502f0b8e6034c86890fe2975e00"), looks := true }, kinds := [], alts := [], laidByText := true, laidKinds := [.data, .data, .data, .sentinel, .sentinel], laidTests := true, laidLooks := .later }
def EntryReadsCardSaid : Prop := Claim7.holds Tryz.pinned (.plain (OpenSpec.ofChange entryReadsSpec)) entryReadsCard

/-- THE SECOND FORM's CARD OF 'cardcaselaw07.EntryDoes'. -/
def entryDoesUptoCard : Claim7 := { stood := { row := entryDoesUptoRow, standIns := [], harness := (true, "50e4754251813c10f565251bd7064b64b9978502f0b8e6034c86890fe2975e00"), looks := true }, kinds := [], alts := [], laidByText := true, laidKinds := [.data, .data, .data], laidTests := true, laidLooks := .later }
def EntryDoesUptoCardSaid : Prop := Claim7.holds Tryz.pinned (.plain (OpenSpec.upto entryDoesSpec)) entryDoesUptoCard

/-- THE SECOND FORM's CARD OF 'cardcaselaw07.EntryOrder'. -/
def entryOrderUptoCard : Claim7 := { stood := { row := entryOrderUptoRow, standIns := [], harness := (true, "50e4754251813c10f565251bd7064b64b9978502f0b8e6034c86890fe2975e00"), looks := true }, kinds := [], alts := [], laidByText := true, laidKinds := [.data, .data, .data], laidTests := true, laidLooks := .later }
def EntryOrderUptoCardSaid : Prop := Claim7.holds Tryz.pinned (.plain (OpenSpec.upto entryOrderSpec)) entryOrderUptoCard

/-- THE SECOND FORM's CARD OF 'cardcaselaw07.EntryDiffs'. -/
def entryDiffsUptoCard : Claim7 := { stood := { row := entryDiffsUptoRow, standIns := [], harness := (true, "50e4754251813c10f565251bd7064b64b9978502f0b8e6034c86890fe2975e00"), looks := true }, kinds := [], alts := [], laidByText := true, laidKinds := [.data, .data, .data], laidTests := true, laidLooks := .later }
def EntryDiffsUptoCardSaid : Prop := Claim7.holds Tryz.pinned (.plain (OpenSpec.upto entryDiffsSpec)) entryDiffsUptoCard

/-- THE SECOND FORM's CARD OF 'cardcaselaw07.EntryBackAgain'. -/
def entryBackAgainUptoCard : Claim7 := { stood := { row := entryBackAgainUptoRow, standIns := [], harness := (true, "50e4754251813c10f565251bd7064b64b9978502f0b8e6034c86890fe2975e00"), looks := true }, kinds := [], alts := [], laidByText := true, laidKinds := [.data, .data, .data], laidTests := true, laidLooks := .later }
def EntryBackAgainUptoCardSaid : Prop := Claim7.holds Tryz.pinned (.plain (OpenSpec.upto entryBackAgainSpec)) entryBackAgainUptoCard

/-- THE SECOND FORM's CARD OF 'cardcaselaw07.EntryOne'. -/
def entryOneUptoCard : Claim7 := { stood := { row := entryOneUptoRow, standIns := [], harness := (true, "50e4754251813c10f565251bd7064b64b9978502f0b8e6034c86890fe2975e00"), looks := true }, kinds := [], alts := [], laidByText := true, laidKinds := [.data, .data, .data], laidTests := true, laidLooks := .later }
def EntryOneUptoCardSaid : Prop := Claim7.holds Tryz.pinned (.plain (OpenSpec.upto entryOneSpec)) entryOneUptoCard

/-- THE SECOND FORM's CARD OF 'cardcaselaw07.EntrySame'. -/
def entrySameUptoCard : Claim7 := { stood := { row := entrySameUptoRow, standIns := [], harness := (true, "50e4754251813c10f565251bd7064b64b9978502f0b8e6034c86890fe2975e00"), looks := true }, kinds := [], alts := [], laidByText := true, laidKinds := [.data, .data, .data], laidTests := true, laidLooks := .later }
def EntrySameUptoCardSaid : Prop := Claim7.holds Tryz.pinned (.plain (OpenSpec.upto entrySameSpec)) entrySameUptoCard

/-- THE SECOND FORM's CARD OF 'cardcaselaw07.EntryTexts'. -/
def entryTextsUptoCard : Claim7 := { stood := { row := entryTextsUptoRow, standIns := [], harness := (true, "50e4754251813c10f565251bd7064b64b9978502f0b8e6034c86890fe2975e00"), looks := true }, kinds := [], alts := [], laidByText := true, laidKinds := [.data, .data, .data, .sentinel, .sentinel], laidTests := true, laidLooks := .later }
def EntryTextsUptoCardSaid : Prop := Claim7.holds Tryz.pinned (.plain (OpenSpec.upto entryTextsSpec)) entryTextsUptoCard

/-- THE SECOND FORM's CARD OF 'cardcaselaw07.EntryReads'. -/
def entryReadsUptoCard : Claim7 := { stood := { row := entryReadsUptoRow, standIns := [], harness := (true, "50e4754251813c10f565251bd7064b64b9978502f0b8e6034c86890fe2975e00"), looks := true }, kinds := [], alts := [], laidByText := true, laidKinds := [.data, .data, .data, .sentinel, .sentinel], laidTests := true, laidLooks := .later }
def EntryReadsUptoCardSaid : Prop := Claim7.holds Tryz.pinned (.plain (OpenSpec.upto entryReadsSpec)) entryReadsUptoCard
end Rows
end Go.Proofs.YtolkpoeioagibaaGreatDoor
