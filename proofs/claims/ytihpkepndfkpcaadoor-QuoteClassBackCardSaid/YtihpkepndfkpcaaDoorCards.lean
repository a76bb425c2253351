/-
  DERIVED. GIVEN WITH THE SEED: THE CARDS: each row of YtihpkepndfkpcaaDoorRows.lean that lists a variable, with what it lists TIED to the program's text (the seventh form; the later family's looks); each row that meets fmt, with fmt's text TOLD by the authors' own Lean function (tested against real Go, not proved from fmt's source: count such statements apart). THE CARD IS WHAT COUNTS. Prove the row's statement (the work); the ties are given (YtihpkepndfkpcaaDoorTie.lean); close each card by the builder's one call (the guide's Derived/Test/ToyasCard.lean, 'card_holds'). Laid BY PROGRAM, IN A SANDBOX (cutbox-door.mjs). By AI agents, Wed Nov 11 2026. No macro, syntax, notation, axiom, sorry.
-/
import Derived.Test.YtihpkepndfkpcaaDoorRows
import GoSem.ClaimSeven
namespace Go.Proofs.YtihpkepndfkpcaaDoor
namespace Rows

/-- THE TIED CARD OF 'chaffkeep.QuoteClassBack'. -/
def quoteClassBackCard : Claim7 := { stood := { row := quoteClassBackRow, standIns := [], harness := (true, "c998c817927248cbf44361954d77e6f4f0c6c9ccc3f544f4e92372a6f5961daa"), looks := false }, kinds := [], alts := [], laidByText := true, laidKinds := [.data], laidTests := true, laidLooks := .later }
def QuoteClassBackCardSaid : Prop := Claim7.holds Tryd.pinned (.plain (OpenSpec.ofChange quoteClassBackSpec)) quoteClassBackCard

/-- THE TIED CARD OF 'chaffkeep.PlaceBack'. -/
def placeBackCard : Claim7 := { stood := { row := placeBackRow, standIns := [], harness := (true, "c998c817927248cbf44361954d77e6f4f0c6c9ccc3f544f4e92372a6f5961daa"), looks := false }, kinds := [], alts := [], laidByText := true, laidKinds := [.data, .pinned], laidTests := true, laidLooks := .later }
def PlaceBackCardSaid : Prop := Claim7.holds Tryd.pinned (.plain (OpenSpec.ofChange placeBackSpec)) placeBackCard

/-- THE SECOND FORM's CARD OF 'chaffkeep.QuoteClassBack'. -/
def quoteClassBackUptoCard : Claim7 := { stood := { row := quoteClassBackUptoRow, standIns := [], harness := (true, "c998c817927248cbf44361954d77e6f4f0c6c9ccc3f544f4e92372a6f5961daa"), looks := false }, kinds := [], alts := [], laidByText := true, laidKinds := [.data], laidTests := true, laidLooks := .later }
def QuoteClassBackUptoCardSaid : Prop := Claim7.holds Tryd.pinned (.plain (OpenSpec.upto quoteClassBackSpec)) quoteClassBackUptoCard

/-- THE SECOND FORM's CARD OF 'chaffkeep.PlaceBack'. -/
def placeBackUptoCard : Claim7 := { stood := { row := placeBackUptoRow, standIns := [], harness := (true, "c998c817927248cbf44361954d77e6f4f0c6c9ccc3f544f4e92372a6f5961daa"), looks := false }, kinds := [], alts := [], laidByText := true, laidKinds := [.data, .pinned], laidTests := true, laidLooks := .later }
def PlaceBackUptoCardSaid : Prop := Claim7.holds Tryd.pinned (.plain (OpenSpec.upto placeBackSpec)) placeBackUptoCard
end Rows
end Go.Proofs.YtihpkepndfkpcaaDoor
