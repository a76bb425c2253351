/-
  DERIVED. GIVEN WITH THE SEED: THE CARDS: each row of YtndhbdbfjkmloaaGreatDoorRows.lean that lists a variable, with what it lists TIED to the program's text (the seventh form; the later family's looks); each row that meets fmt, with fmt's text TOLD by the authors' own Lean function (tested against real Go, not proved from fmt's source: count such statements apart). THE CARD IS WHAT COUNTS. Prove the row's statement (the work); the ties are given (YtndhbdbfjkmloaaGreatDoorTie.lean); close each card by the builder's one call (the guide's Derived/Test/ToyasCard.lean, 'card_holds'). Laid BY PROGRAM, IN A SANDBOX (cutbox-door.mjs). By AI agents, Wed Nov 11 2026. No macro, syntax, notation, axiom, sorry.
-/
import Derived.Test.YtndhbdbfjkmloaaGreatDoorRows
import GoSem.ClaimSeven
namespace Go.Proofs.YtndhbdbfjkmloaaGreatDoor
namespace Rows

/-- THE TIED CARD OF 'chafftop.TopBook'. -/
def topBookCard : Claim7 := { stood := { row := topBookRow, standIns := [], harness := (true, "434fc662a06f912fe65555d5832aad9e3b09880ee22948b229ada43583145196"), looks := true }, kinds := [], alts := [], laidByText := true, laidKinds := [.data, .data, .data, .data, .sentinel, .sentinel, .pinned], laidTests := true, laidLooks := .later }
def TopBookCardSaid : Prop := Claim7.holds Tryz.pinned (.plain (OpenSpec.ofChange topBookSpec)) topBookCard

/-- THE SECOND FORM's CARD OF 'chafftop.TopBook'. -/
def topBookUptoCard : Claim7 := { stood := { row := topBookUptoRow, standIns := [], harness := (true, "434fc662a06f912fe65555d5832aad9e3b09880ee22948b229ada43583145196"), looks := true }, kinds := [], alts := [], laidByText := true, laidKinds := [.data, .data, .data, .data, .sentinel, .sentinel, .pinned], laidTests := true, laidLooks := .later }
def TopBookUptoCardSaid : Prop := Claim7.holds Tryz.pinned (.plain (OpenSpec.upto topBookSpec)) topBookUptoCard
end Rows
end Go.Proofs.YtndhbdbfjkmloaaGreatDoor
