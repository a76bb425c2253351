/-
  DERIVED. GIVEN WITH THE SEED: THE CARDS: each row of YtkmcnekjimobhaaDoorRows.lean that lists a variable, with what it lists TIED to the program's text (the seventh form; the later family's looks); each row that meets fmt, with fmt's text TOLD by the authors' own Lean function (tested against real Go, not proved from fmt's source: count such statements apart). THE CARD IS WHAT COUNTS. Prove the row's statement (the work); the ties are given (YtkmcnekjimobhaaDoorTie.lean); close each card by the builder's one call (the guide's Derived/Test/ToyasCard.lean, 'card_holds'). Laid BY PROGRAM, IN A SANDBOX (cutbox-door.mjs). By AI agents, Wed Nov 11 2026. No macro, syntax, notation, axiom, sorry.
-/
import Derived.Test.YtkmcnekjimobhaaDoorRows
import GoSem.ClaimSeven
namespace Go.Proofs.YtkmcnekjimobhaaDoor
namespace Rows

/-- THE TIED CARD OF 'chaffkeep.TreeCounts'. -/
def treeCountsCard : Claim7 := { stood := { row := treeCountsRow, standIns := [], harness := (true, "bb9e8aeb29a5712f3b164bcd9581b3961b8ab03fb5aa7369638f537827bb95f9"), looks := true }, kinds := [], alts := [], laidByText := true, laidKinds := [.data, .data, .data], laidTests := true, laidLooks := .later }
def TreeCountsCardSaid : Prop := Claim7.holds Tryd.pinned (.plain (OpenSpec.ofChange treeCountsSpec)) treeCountsCard

/-- THE TIED CARD OF 'chaffkeep.QuoteOrder'. -/
def quoteOrderCard : Claim7 := { stood := { row := quoteOrderRow, standIns := [], harness := (true, "bb9e8aeb29a5712f3b164bcd9581b3961b8ab03fb5aa7369638f537827bb95f9"), looks := true }, kinds := [], alts := [], laidByText := true, laidKinds := [.data, .data, .data, .sentinel, .sentinel], laidTests := true, laidLooks := .later }
def QuoteOrderCardSaid : Prop := Claim7.holds Tryd.pinned (.plain (OpenSpec.ofChange quoteOrderSpec)) quoteOrderCard

/-- THE SECOND FORM's CARD OF 'chaffkeep.TreeCounts'. -/
def treeCountsUptoCard : Claim7 := { stood := { row := treeCountsUptoRow, standIns := [], harness := (true, "bb9e8aeb29a5712f3b164bcd9581b3961b8ab03fb5aa7369638f537827bb95f9"), looks := true }, kinds := [], alts := [], laidByText := true, laidKinds := [.data, .data, .data], laidTests := true, laidLooks := .later }
def TreeCountsUptoCardSaid : Prop := Claim7.holds Tryd.pinned (.plain (OpenSpec.upto treeCountsSpec)) treeCountsUptoCard

/-- THE SECOND FORM's CARD OF 'chaffkeep.QuoteOrder'. -/
def quoteOrderUptoCard : Claim7 := { stood := { row := quoteOrderUptoRow, standIns := [], harness := (true, "bb9e8aeb29a5712f3b164bcd9581b3961b8ab03fb5aa7369638f537827bb95f9"), looks := true }, kinds := [], alts := [], laidByText := true, laidKinds := [.data, .data, .data, .sentinel, .sentinel], laidTests := true, laidLooks := .later }
def QuoteOrderUptoCardSaid : Prop := Claim7.holds Tryd.pinned (.plain (OpenSpec.upto quoteOrderSpec)) quoteOrderUptoCard
end Rows
end Go.Proofs.YtkmcnekjimobhaaDoor
