/-
  DERIVED. GIVEN WITH THE SEED: THE CARDS: each row of YtdmbcbdcabgifaaGreatDoorRows.lean that lists a variable, with what it lists TIED to the program's text (the seventh form; the later family's looks); each row that meets fmt, with fmt's text TOLD by the authors' own Lean function (tested against real Go, not proved from fmt's source: count such statements apart). THE CARD IS WHAT COUNTS. Prove the row's statement (the work); the ties are given (YtdmbcbdcabgifaaGreatDoorTie.lean); close each card by the builder's one call (the guide's Derived/Test/ToyasCard.lean, 'card_holds'). Laid BY PROGRAM, IN A SANDBOX (cutbox-door.mjs). By AI agents, Wed Nov 11 2026. No macro, syntax, notation, axiom, sorry.
-/
import Derived.Test.YtdmbcbdcabgifaaGreatDoorRows
import GoSem.ClaimSeven
namespace Go.Proofs.YtdmbcbdcabgifaaGreatDoor
namespace Rows

/-- THE TIED CARD OF 'cardcaselaw16.ContactTexts'. -/
def contactTextsCard : Claim7 := { stood := { row := contactTextsRow, standIns := [], harness := (true, "b3791b03f4b82cb8bc0f0747fd50807bb9d7122cc6775f3c6267ce213a76cb07"), looks := true }, kinds := [], alts := [], laidByText := true, laidKinds := [.data, .data, .data, .sentinel, .sentinel], laidTests := true, laidLooks := .later }
def ContactTextsCardSaid : Prop := Claim7.holds Tryz.pinned (.plain (OpenSpec.ofChange contactTextsSpec)) contactTextsCard

/-- THE TIED CARD OF 'cardcaselaw16.ContactReads'. -/
def contactReadsCard : Claim7 := { stood := { row := contactReadsRow, standIns := [], harness := (true, "b3791b03f4b82cb8bc0f0747fd50807bb9d7122cc6775f3c6267ce213a76cb07"), looks := true }, kinds := [], alts := [], laidByText := true, laidKinds := [.data, .data, .data, .sentinel, .sentinel], laidTests := true, laidLooks := .later }
def ContactReadsCardSaid : Prop := Claim7.holds Tryz.pinned (.plain (OpenSpec.ofChange contactReadsSpec)) contactReadsCard

/-- THE SECOND FORM's CARD OF 'cardcaselaw16.ContactTexts'. -/
def contactTextsUptoCard : Claim7 := { stood := { row := contactTextsUptoRow, standIns := [], harness := (true, "b3791b03f4b82cb8bc0f0747fd50807bb9d7122cc6775f3c6267ce213a76cb07"), looks := true }, kinds := [], alts := [], laidByText := true, laidKinds := [.data, .data, .data, .sentinel, .sentinel], laidTests := true, laidLooks := .later }
def ContactTextsUptoCardSaid : Prop := Claim7.holds Tryz.pinned (.plain (OpenSpec.upto contactTextsSpec)) contactTextsUptoCard

/-- THE SECOND FORM's CARD OF 'cardcaselaw16.ContactReads'. -/
def contactReadsUptoCard : Claim7 := { stood := { row := contactReadsUptoRow, standIns := [], harness := (true, "b3791b03f4b82cb8bc0f0747fd50807bb9d7122cc6775f3c6267ce213a76cb07"), looks := true }, kinds := [], alts := [], laidByText := true, laidKinds := [.data, .data, .data, .sentinel, .sentinel], laidTests := true, laidLooks := .later }
def ContactReadsUptoCardSaid : Prop := Claim7.holds Tryz.pinned (.plain (OpenSpec.upto contactReadsSpec)) contactReadsUptoCard
end Rows
end Go.Proofs.YtdmbcbdcabgifaaGreatDoor
