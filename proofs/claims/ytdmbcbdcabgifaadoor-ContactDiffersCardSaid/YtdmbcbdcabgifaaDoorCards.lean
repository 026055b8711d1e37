/-
  DERIVED. GIVEN WITH THE SEED: THE CARDS: each row of YtdmbcbdcabgifaaDoorRows.lean that lists a variable, with what it lists TIED to the program's text (the seventh form; the later family's looks); each row that meets fmt, with fmt's text TOLD by the authors' own Lean function (tested against real Go, not proved from fmt's source: count such statements apart). THE CARD IS WHAT COUNTS. Prove the row's statement (the work); the ties are given (YtdmbcbdcabgifaaDoorTie.lean); close each card by the builder's one call (the guide's Derived/Test/ToyasCard.lean, 'card_holds'). Laid BY PROGRAM, IN A SANDBOX (cutbox-door.mjs). By AI agents, Wed Nov 11 2026. No macro, syntax, notation, axiom, sorry.
-/
import Derived.Test.YtdmbcbdcabgifaaDoorRows
import GoSem.ClaimSeven
namespace Go.Proofs.YtdmbcbdcabgifaaDoor
namespace Rows

/-- THE TIED CARD OF 'cardcaselaw16.ContactWith'. -/
def contactWithCard : Claim7 := { stood := { row := contactWithRow, standIns := [], harness := (true, "e06da4eda374121d24afebe786776a281ddc4acf47a7b1219c6e4257523be161"), looks := false }, kinds := [], alts := [], laidByText := true, laidKinds := [.data, .data, .data], laidTests := true, laidLooks := .later }
def ContactWithCardSaid : Prop := Claim7.holds Tryd.pinned (.plain (OpenSpec.ofChange contactWithSpec)) contactWithCard

/-- THE TIED CARD OF 'cardcaselaw16.ContactDiffers'. -/
def contactDiffersCard : Claim7 := { stood := { row := contactDiffersRow, standIns := [], harness := (true, "e06da4eda374121d24afebe786776a281ddc4acf47a7b1219c6e4257523be161"), looks := false }, kinds := [], alts := [], laidByText := true, laidKinds := [.data, .data, .data], laidTests := true, laidLooks := .later }
def ContactDiffersCardSaid : Prop := Claim7.holds Tryd.pinned (.plain (OpenSpec.ofChange contactDiffersSpec)) contactDiffersCard

/-- THE TIED CARD OF 'cardcaselaw16.ContactOther'. -/
def contactOtherCard : Claim7 := { stood := { row := contactOtherRow, standIns := [], harness := (true, "e06da4eda374121d24afebe786776a281ddc4acf47a7b1219c6e4257523be161"), looks := false }, kinds := [], alts := [], laidByText := true, laidKinds := [.data, .data, .data], laidTests := true, laidLooks := .later }
def ContactOtherCardSaid : Prop := Claim7.holds Tryd.pinned (.plain (OpenSpec.ofChange contactOtherSpec)) contactOtherCard

/-- THE SECOND FORM's CARD OF 'cardcaselaw16.ContactWith'. -/
def contactWithUptoCard : Claim7 := { stood := { row := contactWithUptoRow, standIns := [], harness := (true, "e06da4eda374121d24afebe786776a281ddc4acf47a7b1219c6e4257523be161"), looks := false }, kinds := [], alts := [], laidByText := true, laidKinds := [.data, .data, .data], laidTests := true, laidLooks := .later }
def ContactWithUptoCardSaid : Prop := Claim7.holds Tryd.pinned (.plain (OpenSpec.upto contactWithSpec)) contactWithUptoCard

/-- THE SECOND FORM's CARD OF 'cardcaselaw16.ContactDiffers'. -/
def contactDiffersUptoCard : Claim7 := { stood := { row := contactDiffersUptoRow, standIns := [], harness := (true, "e06da4eda374121d24afebe786776a281ddc4acf47a7b1219c6e4257523be161"), looks := false }, kinds := [], alts := [], laidByText := true, laidKinds := [.data, .data, .data], laidTests := true, laidLooks := .later }
def ContactDiffersUptoCardSaid : Prop := Claim7.holds Tryd.pinned (.plain (OpenSpec.upto contactDiffersSpec)) contactDiffersUptoCard

/-- THE SECOND FORM's CARD OF 'cardcaselaw16.ContactOther'. -/
def contactOtherUptoCard : Claim7 := { stood := { row := contactOtherUptoRow, standIns := [], harness := (true, "e06da4eda374121d24afebe786776a281ddc4acf47a7b1219c6e4257523be161"), looks := false }, kinds := [], alts := [], laidByText := true, laidKinds := [.data, .data, .data], laidTests := true, laidLooks := .later }
def ContactOtherUptoCardSaid : Prop := Claim7.holds Tryd.pinned (.plain (OpenSpec.upto contactOtherSpec)) contactOtherUptoCard
end Rows
end Go.Proofs.YtdmbcbdcabgifaaDoor
