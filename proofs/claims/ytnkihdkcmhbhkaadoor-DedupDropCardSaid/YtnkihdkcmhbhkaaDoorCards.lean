/-
  DERIVED. GIVEN WITH THE SEED: THE CARDS: each row of YtnkihdkcmhbhkaaDoorRows.lean that lists a variable, with what it lists TIED to the program's text (the seventh form; the later family's looks); each row that meets fmt, with fmt's text TOLD by the authors' own Lean function (tested against real Go, not proved from fmt's source: count such statements apart). THE CARD IS WHAT COUNTS. Prove the row's statement (the work); the ties are given (YtnkihdkcmhbhkaaDoorTie.lean); close each card by the builder's one call (the guide's Derived/Test/ToyasCard.lean, 'card_holds'). Laid BY PROGRAM, IN A SANDBOX (cutbox-door.mjs). By AI agents, Wed Nov 11 2026. No macro, syntax, notation, axiom, sorry.
-/
import Derived.Test.YtnkihdkcmhbhkaaDoorRows
import GoSem.ClaimSeven
namespace Go.Proofs.YtnkihdkcmhbhkaaDoor
namespace Rows

/-- THE TIED CARD OF 'platterholdlaw4.ChunkSays'. -/
def chunkSaysCard : Claim7 := { stood := { row := chunkSaysRow, standIns := [], harness := (true, "45d3cee6dca196712b7e0897cd797c5d032eb4d1cd636720e690117a1314decc"), looks := true }, kinds := [], alts := [], laidByText := true, laidKinds := [.handle], laidTests := true, laidLooks := .later }
def ChunkSaysCardSaid : Prop := Claim7.holds Tryd.pinned (.plain (OpenSpec.ofChange chunkSaysSpec)) chunkSaysCard

/-- THE TIED CARD OF 'platterholdlaw4.DedupDrop'. -/
def dedupDropCard : Claim7 := { stood := { row := dedupDropRow, standIns := [], harness := (true, "45d3cee6dca196712b7e0897cd797c5d032eb4d1cd636720e690117a1314decc"), looks := true }, kinds := [], alts := [], laidByText := true, laidKinds := [.handle], laidTests := true, laidLooks := .later }
def DedupDropCardSaid : Prop := Claim7.holds Tryd.pinned (.plain (OpenSpec.ofChange dedupDropSpec)) dedupDropCard

/-- THE TIED CARD OF 'platterholdlaw4.DedupPlays'. -/
def dedupPlaysCard : Claim7 := { stood := { row := dedupPlaysRow, standIns := [], harness := (true, "45d3cee6dca196712b7e0897cd797c5d032eb4d1cd636720e690117a1314decc"), looks := true }, kinds := [], alts := [], laidByText := true, laidKinds := [.handle], laidTests := true, laidLooks := .later }
def DedupPlaysCardSaid : Prop := Claim7.holds Tryd.pinned (.plain (OpenSpec.ofChange dedupPlaysSpec)) dedupPlaysCard

/-- THE SECOND FORM's CARD OF 'platterholdlaw4.ChunkSays'. -/
def chunkSaysUptoCard : Claim7 := { stood := { row := chunkSaysUptoRow, standIns := [], harness := (true, "45d3cee6dca196712b7e0897cd797c5d032eb4d1cd636720e690117a1314decc"), looks := true }, kinds := [], alts := [], laidByText := true, laidKinds := [.handle], laidTests := true, laidLooks := .later }
def ChunkSaysUptoCardSaid : Prop := Claim7.holds Tryd.pinned (.plain (OpenSpec.upto chunkSaysSpec)) chunkSaysUptoCard

/-- THE SECOND FORM's CARD OF 'platterholdlaw4.DedupDrop'. -/
def dedupDropUptoCard : Claim7 := { stood := { row := dedupDropUptoRow, standIns := [], harness := (true, "45d3cee6dca196712b7e0897cd797c5d032eb4d1cd636720e690117a1314decc"), looks := true }, kinds := [], alts := [], laidByText := true, laidKinds := [.handle], laidTests := true, laidLooks := .later }
def DedupDropUptoCardSaid : Prop := Claim7.holds Tryd.pinned (.plain (OpenSpec.upto dedupDropSpec)) dedupDropUptoCard

/-- THE SECOND FORM's CARD OF 'platterholdlaw4.DedupPlays'. -/
def dedupPlaysUptoCard : Claim7 := { stood := { row := dedupPlaysUptoRow, standIns := [], harness := (true, "45d3cee6dca196712b7e0897cd797c5d032eb4d1cd636720e690117a1314decc"), looks := true }, kinds := [], alts := [], laidByText := true, laidKinds := [.handle], laidTests := true, laidLooks := .later }
def DedupPlaysUptoCardSaid : Prop := Claim7.holds Tryd.pinned (.plain (OpenSpec.upto dedupPlaysSpec)) dedupPlaysUptoCard
end Rows
end Go.Proofs.YtnkihdkcmhbhkaaDoor
