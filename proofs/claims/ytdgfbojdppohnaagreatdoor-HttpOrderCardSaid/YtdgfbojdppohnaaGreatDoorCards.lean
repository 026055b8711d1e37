/-
  DERIVED. GIVEN WITH THE SEED: THE CARDS: each row of YtdgfbojdppohnaaGreatDoorRows.lean that lists a variable, with what it lists TIED to the program's text (the seventh form; the later family's looks); each row that meets fmt, with fmt's text TOLD by the authors' own Lean function (tested against real Go, not proved from fmt's source: count such statements apart). THE CARD IS WHAT COUNTS. Prove the row's statement (the work); the ties are given (YtdgfbojdppohnaaGreatDoorTie.lean); close each card by the builder's one call (the guide's Derived/Test/ToyasCard.lean, 'card_holds'). Laid BY PROGRAM, IN A SANDBOX (cutbox-door.mjs). By AI agents, Wed Nov 11 2026. No macro, syntax, notation, axiom, sorry.
-/
import Derived.Test.YtdgfbojdppohnaaGreatDoorRows
import GoSem.ClaimSeven
namespace Go.Proofs.YtdgfbojdppohnaaGreatDoor
namespace Rows

/-- THE TIED CARD OF 'cardcaselaw12.HttpLong'. -/
def httpLongCard : Claim7 := { stood := { row := httpLongRow, standIns := [], harness := (true, "663d7417cfa5581ae58ce8d2d6daa051cc224b06a548bf6383bd50ff79baa317"), looks := true }, kinds := [], alts := [], laidByText := true, laidKinds := [.data, .data, .data, .data, .sentinel, .sentinel, .pinned], laidTests := true, laidLooks := .later }
def HttpLongCardSaid : Prop := Claim7.holds Tryz.pinned (.plain (OpenSpec.ofChange httpLongSpec)) httpLongCard

/-- THE TIED CARD OF 'cardcaselaw12.HttpReplies'. -/
def httpRepliesCard : Claim7 := { stood := { row := httpRepliesRow, standIns := [], harness := (true, "663d7417cfa5581ae58ce8d2d6daa051cc224b06a548bf6383bd50ff79baa317"), looks := true }, kinds := [], alts := [], laidByText := true, laidKinds := [.data, .data, .data, .data, .sentinel, .sentinel, .pinned], laidTests := true, laidLooks := .later }
def HttpRepliesCardSaid : Prop := Claim7.holds Tryz.pinned (.plain (OpenSpec.ofChange httpRepliesSpec)) httpRepliesCard

/-- THE TIED CARD OF 'cardcaselaw12.HttpCuts'. -/
def httpCutsCard : Claim7 := { stood := { row := httpCutsRow, standIns := [], harness := (true, "663d7417cfa5581ae58ce8d2d6daa051cc224b06a548bf6383bd50ff79baa317"), looks := true }, kinds := [], alts := [], laidByText := true, laidKinds := [.data, .data, .data, .data, .sentinel, .sentinel, .pinned], laidTests := true, laidLooks := .later }
def HttpCutsCardSaid : Prop := Claim7.holds Tryz.pinned (.plain (OpenSpec.ofChange httpCutsSpec)) httpCutsCard

/-- THE TIED CARD OF 'cardcaselaw12.HttpRequests'. -/
def httpRequestsCard : Claim7 := { stood := { row := httpRequestsRow, standIns := [], harness := (true, "663d7417cfa5581ae58ce8d2d6daa051cc224b06a548bf6383bd50ff79baa317"), looks := true }, kinds := [], alts := [], laidByText := true, laidKinds := [.data, .data, .data, .data, .sentinel, .sentinel, .pinned], laidTests := true, laidLooks := .later }
def HttpRequestsCardSaid : Prop := Claim7.holds Tryz.pinned (.plain (OpenSpec.ofChange httpRequestsSpec)) httpRequestsCard

/-- THE TIED CARD OF 'cardcaselaw12.HttpReads'. -/
def httpReadsCard : Claim7 := { stood := { row := httpReadsRow, standIns := [], harness := (true, "663d7417cfa5581ae58ce8d2d6daa051cc224b06a548bf6383bd50ff79baa317"), looks := true }, kinds := [], alts := [], laidByText := true, laidKinds := [.data, .data, .data, .data, .sentinel, .sentinel, .pinned], laidTests := true, laidLooks := .later }
def HttpReadsCardSaid : Prop := Claim7.holds Tryz.pinned (.plain (OpenSpec.ofChange httpReadsSpec)) httpReadsCard

/-- THE TIED CARD OF 'cardcaselaw12.HttpOrder'. -/
def httpOrderCard : Claim7 := { stood := { row := httpOrderRow, standIns := [], harness := (true, "663d7417cfa5581ae58ce8d2d6daa051cc224b06a548bf6383bd50ff79baa317"), looks := true }, kinds := [], alts := [], laidByText := true, laidKinds := [.data, .data, .data, .data, .sentinel, .sentinel, .pinned], laidTests := true, laidLooks := .later }
def HttpOrderCardSaid : Prop := Claim7.holds Tryz.pinned (.plain (OpenSpec.ofChange httpOrderSpec)) httpOrderCard

/-- THE SECOND FORM's CARD OF 'cardcaselaw12.HttpLong'. -/
def httpLongUptoCard : Claim7 := { stood := { row := httpLongUptoRow, standIns := [], harness := (true, "663d7417cfa5581ae58ce8d2d6daa051cc224b06a548bf6383bd50ff79baa317"), looks := true }, kinds := [], alts := [], laidByText := true, laidKinds := [.data, .data, .data, .data, .sentinel, .sentinel, .pinned], laidTests := true, laidLooks := .later }
def HttpLongUptoCardSaid : Prop := Claim7.holds Tryz.pinned (.plain (OpenSpec.upto httpLongSpec)) httpLongUptoCard

/-- THE SECOND FORM's CARD OF 'cardcaselaw12.HttpReplies'. -/
def httpRepliesUptoCard : Claim7 := { stood := { row := httpRepliesUptoRow, standIns := [], harness := (true, "663d7417cfa5581ae58ce8d2d6daa051cc224b06a548bf6383bd50ff79baa317"), looks := true }, kinds := [], alts := [], laidByText := true, laidKinds := [.data, .data, .data, .data, .sentinel, .sentinel, .pinned], laidTests := true, laidLooks := .later }
def HttpRepliesUptoCardSaid : Prop := Claim7.holds Tryz.pinned (.plain (OpenSpec.upto httpRepliesSpec)) httpRepliesUptoCard

/-- THE SECOND FORM's CARD OF 'cardcaselaw12.HttpCuts'. -/
def httpCutsUptoCard : Claim7 := { stood := { row := httpCutsUptoRow, standIns := [], harness := (true, "663d7417cfa5581ae58ce8d2d6daa051cc224b06a548bf6383bd50ff79baa317"), looks := true }, kinds := [], alts := [], laidByText := true, laidKinds := [.data, .data, .data, .data, .sentinel, .sentinel, .pinned], laidTests := true, laidLooks := .later }
def HttpCutsUptoCardSaid : Prop := Claim7.holds Tryz.pinned (.plain (OpenSpec.upto httpCutsSpec)) httpCutsUptoCard

/-- THE SECOND FORM's CARD OF 'cardcaselaw12.HttpRequests'. -/
def httpRequestsUptoCard : Claim7 := { stood := { row := httpRequestsUptoRow, standIns := [], harness := (true, "663d7417cfa5581ae58ce8d2d6daa051cc224b06a548bf6383bd50ff79baa317"), looks := true }, kinds := [], alts := [], laidByText := true, laidKinds := [.data, .data, .data, .data, .sentinel, .sentinel, .pinned], laidTests := true, laidLooks := .later }
def HttpRequestsUptoCardSaid : Prop := Claim7.holds Tryz.pinned (.plain (OpenSpec.upto httpRequestsSpec)) httpRequestsUptoCard

/-- THE SECOND FORM's CARD OF 'cardcaselaw12.HttpReads'. -/
def httpReadsUptoCard : Claim7 := { stood := { row := httpReadsUptoRow, standIns := [], harness := (true, "663d7417cfa5581ae58ce8d2d6daa051cc224b06a548bf6383bd50ff79baa317"), looks := true }, kinds := [], alts := [], laidByText := true, laidKinds := [.data, .data, .data, .data, .sentinel, .sentinel, .pinned], laidTests := true, laidLooks := .later }
def HttpReadsUptoCardSaid : Prop := Claim7.holds Tryz.pinned (.plain (OpenSpec.upto httpReadsSpec)) httpReadsUptoCard

/-- THE SECOND FORM's CARD OF 'cardcaselaw12.HttpOrder'. -/
def httpOrderUptoCard : Claim7 := { stood := { row := httpOrderUptoRow, standIns := [], harness := (true, "663d7417cfa5581ae58ce8d2d6daa051cc224b06a548bf6383bd50ff79baa317"), looks := true }, kinds := [], alts := [], laidByText := true, laidKinds := [.data, .data, .data, .data, .sentinel, .sentinel, .pinned], laidTests := true, laidLooks := .later }
def HttpOrderUptoCardSaid : Prop := Claim7.holds Tryz.pinned (.plain (OpenSpec.upto httpOrderSpec)) httpOrderUptoCard
end Rows
end Go.Proofs.YtdgfbojdppohnaaGreatDoor
