/-
  DERIVED. GIVEN WITH THE SEED: THE CARDS: each row of YtegibgflhhdddaaDoorRows.lean that lists a variable, with what it lists TIED to the program's text (the seventh form; the later family's looks); each row that meets fmt, with fmt's text TOLD by the authors' own Lean function (tested against real Go, not proved from fmt's source: count such statements apart). THE CARD IS WHAT COUNTS. Prove the row's statement (the work); the ties are given (YtegibgflhhdddaaDoorTie.lean); close each card by the builder's one call (the guide's Derived/Test/ToyasCard.lean, 'card_holds'). Laid BY PROGRAM, IN A SANDBOX (cutbox-door.mjs). By AI agents, Wed Nov 11 2026. No macro, syntax, notation, axiom, sorry.
-/
import Derived.Test.YtegibgflhhdddaaDoorRows
import GoSem.ClaimSeven
namespace Go.Proofs.YtegibgflhhdddaaDoor
namespace Rows

/-- THE TIED CARD OF 'platterholdlaw4.FtlPlays'. -/
def ftlPlaysCard : Claim7 := { stood := { row := ftlPlaysRow, standIns := [], harness := (true, "ebae9f66d651b07d24338031f695157cf1c042ba3819fda39bceb136c3f648c1"), looks := true }, kinds := [], alts := [], laidByText := true, laidKinds := [.handle], laidTests := true, laidLooks := .later }
def FtlPlaysCardSaid : Prop := Claim7.holds Tryd.pinned (.plain (OpenSpec.ofChange ftlPlaysSpec)) ftlPlaysCard

/-- THE TIED CARD OF 'platterholdlaw4.SnapPlays'. -/
def snapPlaysCard : Claim7 := { stood := { row := snapPlaysRow, standIns := [], harness := (true, "ebae9f66d651b07d24338031f695157cf1c042ba3819fda39bceb136c3f648c1"), looks := true }, kinds := [], alts := [], laidByText := true, laidKinds := [.data, .handle], laidTests := true, laidLooks := .later }
def SnapPlaysCardSaid : Prop := Claim7.holds Tryd.pinned (.plain (OpenSpec.ofChange snapPlaysSpec)) snapPlaysCard

/-- THE TIED CARD OF 'platterholdtop.TopPages'. -/
def topPagesCard : Claim7 := { stood := { row := topPagesRow, standIns := [], harness := (true, "ebae9f66d651b07d24338031f695157cf1c042ba3819fda39bceb136c3f648c1"), looks := true }, kinds := [], alts := [], laidByText := true, laidKinds := [.handle], laidTests := true, laidLooks := .later }
def TopPagesCardSaid : Prop := Claim7.holds Tryd.pinned (.plain (OpenSpec.ofChange topPagesSpec)) topPagesCard

/-- THE SECOND FORM's CARD OF 'platterholdlaw4.FtlPlays'. -/
def ftlPlaysUptoCard : Claim7 := { stood := { row := ftlPlaysUptoRow, standIns := [], harness := (true, "ebae9f66d651b07d24338031f695157cf1c042ba3819fda39bceb136c3f648c1"), looks := true }, kinds := [], alts := [], laidByText := true, laidKinds := [.handle], laidTests := true, laidLooks := .later }
def FtlPlaysUptoCardSaid : Prop := Claim7.holds Tryd.pinned (.plain (OpenSpec.upto ftlPlaysSpec)) ftlPlaysUptoCard

/-- THE SECOND FORM's CARD OF 'platterholdlaw4.SnapPlays'. -/
def snapPlaysUptoCard : Claim7 := { stood := { row := snapPlaysUptoRow, standIns := [], harness := (true, "ebae9f66d651b07d24338031f695157cf1c042ba3819fda39bceb136c3f648c1"), looks := true }, kinds := [], alts := [], laidByText := true, laidKinds := [.data, .handle], laidTests := true, laidLooks := .later }
def SnapPlaysUptoCardSaid : Prop := Claim7.holds Tryd.pinned (.plain (OpenSpec.upto snapPlaysSpec)) snapPlaysUptoCard

/-- THE SECOND FORM's CARD OF 'platterholdtop.TopPages'. -/
def topPagesUptoCard : Claim7 := { stood := { row := topPagesUptoRow, standIns := [], harness := (true, "ebae9f66d651b07d24338031f695157cf1c042ba3819fda39bceb136c3f648c1"), looks := true }, kinds := [], alts := [], laidByText := true, laidKinds := [.handle], laidTests := true, laidLooks := .later }
def TopPagesUptoCardSaid : Prop := Claim7.holds Tryd.pinned (.plain (OpenSpec.upto topPagesSpec)) topPagesUptoCard
end Rows
end Go.Proofs.YtegibgflhhdddaaDoor
