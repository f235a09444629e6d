/-
  DERIVED. GIVEN WITH THE SEED: THE CARDS: each row of YtaoekllajnnbjaaDoorRows.lean that lists a variable, with what it lists TIED to the program's text (the seventh form; the later family's looks); each row that meets fmt, with fmt's text TOLD by the authors' own Lean function (tested against real Go, not proved from fmt's source: count such statements apart). THE CARD IS WHAT COUNTS. Prove the row's statement (the work); the ties are given (YtaoekllajnnbjaaDoorTie.lean); close each card by the builder's one call (the guide's Derived/Test/ToyasCard.lean, 'card_holds'). Laid BY PROGRAM, IN A SANDBOX (cutbox-door.mjs). By AI agents, Wed Nov 11 2026. No macro, syntax, notation, axiom, sorry.
-/
import Derived.Test.YtaoekllajnnbjaaDoorRows
import GoSem.ClaimSeven
namespace Go.Proofs.YtaoekllajnnbjaaDoor
namespace Rows

/-- THE TIED CARD OF 'platterholdlaw4.DedupPlays'. -/
def dedupPlaysCard : Claim7 := { stood := { row := dedupPlaysRow, standIns := [], harness := (true, "656a158d959ea667f23dfecba3ca54c4c93201cbaa6b3499da36f8bd00aa95e0"), looks := true }, kinds := [], alts := [], laidByText := true, laidKinds := [.handle], laidTests := true, laidLooks := .later }
def DedupPlaysCardSaid : Prop := Claim7.holds Tryd.pinned (.plain (OpenSpec.ofChange dedupPlaysSpec)) dedupPlaysCard

/-- THE SECOND FORM's CARD OF 'platterholdlaw4.DedupPlays'. -/
def dedupPlaysUptoCard : Claim7 := { stood := { row := dedupPlaysUptoRow, standIns := [], harness := (true, "656a158d959ea667f23dfecba3ca54c4c93201cbaa6b3499da36f8bd00aa95e0"), looks := true }, kinds := [], alts := [], laidByText := true, laidKinds := [.handle], laidTests := true, laidLooks := .later }
def DedupPlaysUptoCardSaid : Prop := Claim7.holds Tryd.pinned (.plain (OpenSpec.upto dedupPlaysSpec)) dedupPlaysUptoCard
end Rows
end Go.Proofs.YtaoekllajnnbjaaDoor
