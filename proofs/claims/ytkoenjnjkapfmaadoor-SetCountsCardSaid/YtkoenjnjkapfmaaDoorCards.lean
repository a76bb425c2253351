/-
  DERIVED. GIVEN WITH THE SEED: THE CARDS: each row of YtkoenjnjkapfmaaDoorRows.lean that lists a variable, with what it lists TIED to the program's text (the seventh form; the later family's looks); each row that meets fmt, with fmt's text TOLD by the authors' own Lean function (tested against real Go, not proved from fmt's source: count such statements apart). THE CARD IS WHAT COUNTS. Prove the row's statement (the work); the ties are given (YtkoenjnjkapfmaaDoorTie.lean); close each card by the builder's one call (the guide's Derived/Test/ToyasCard.lean, 'card_holds'). Laid BY PROGRAM, IN A SANDBOX (cutbox-door.mjs). By AI agents, Wed Nov 11 2026. No macro, syntax, notation, axiom, sorry.
-/
import Derived.Test.YtkoenjnjkapfmaaDoorRows
import GoSem.ClaimSeven
namespace Go.Proofs.YtkoenjnjkapfmaaDoor
namespace Rows

/-- THE TIED CARD OF 'chaffkeep.SetCounts'. -/
def setCountsCard : Claim7 := { stood := { row := setCountsRow, standIns := [], harness := (true, "79fc568d3c59f104540c5ab75aba9a3f48608387c905a593625a7328185b2e11"), looks := false }, kinds := [], alts := [], laidByText := true, laidKinds := [.data], laidTests := true, laidLooks := .later }
def SetCountsCardSaid : Prop := Claim7.holds Tryd.pinned (.plain (OpenSpec.ofChange setCountsSpec)) setCountsCard

/-- THE SECOND FORM's CARD OF 'chaffkeep.SetCounts'. -/
def setCountsUptoCard : Claim7 := { stood := { row := setCountsUptoRow, standIns := [], harness := (true, "79fc568d3c59f104540c5ab75aba9a3f48608387c905a593625a7328185b2e11"), looks := false }, kinds := [], alts := [], laidByText := true, laidKinds := [.data], laidTests := true, laidLooks := .later }
def SetCountsUptoCardSaid : Prop := Claim7.holds Tryd.pinned (.plain (OpenSpec.upto setCountsSpec)) setCountsUptoCard
end Rows
end Go.Proofs.YtkoenjnjkapfmaaDoor
