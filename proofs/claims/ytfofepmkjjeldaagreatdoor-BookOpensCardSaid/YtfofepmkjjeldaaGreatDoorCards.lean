/-
  DERIVED. GIVEN WITH THE SEED: THE CARDS: each row of YtfofepmkjjeldaaGreatDoorRows.lean that lists a variable, with what it lists TIED to the program's text (the seventh form; the later family's looks); each row that meets fmt, with fmt's text TOLD by the authors' own Lean function (tested against real Go, not proved from fmt's source: count such statements apart). THE CARD IS WHAT COUNTS. Prove the row's statement (the work); the ties are given (YtfofepmkjjeldaaGreatDoorTie.lean); close each card by the builder's one call (the guide's Derived/Test/ToyasCard.lean, 'card_holds'). Laid BY PROGRAM, IN A SANDBOX (cutbox-door.mjs). By AI agents, Wed Nov 11 2026. No macro, syntax, notation, axiom, sorry.
-/
import Derived.Test.YtfofepmkjjeldaaGreatDoorRows
import GoSem.ClaimSeven
namespace Go.Proofs.YtfofepmkjjeldaaGreatDoor
namespace Rows

/-- THE TIED CARD OF 'platterholdlaw4.BookTurned'. -/
def bookTurnedCard : Claim7 := { stood := { row := bookTurnedRow, standIns := [], harness := (true, "6008dc5c61c6e9d810238a835f292fb8395569494bc4104a58284856f81918a9"), looks := true }, kinds := [], alts := [], laidByText := true, laidKinds := [.data, .data, .data, .data, .handle, .sentinel, .sentinel, .pinned], laidTests := true, laidLooks := .later }
def BookTurnedCardSaid : Prop := Claim7.holds Tryz.pinned (.plain (OpenSpec.ofChange bookTurnedSpec)) bookTurnedCard

/-- THE TIED CARD OF 'platterholdlaw4.BookOpens'. -/
def bookOpensCard : Claim7 := { stood := { row := bookOpensRow, standIns := [], harness := (true, "6008dc5c61c6e9d810238a835f292fb8395569494bc4104a58284856f81918a9"), looks := true }, kinds := [], alts := [], laidByText := true, laidKinds := [.data, .data, .data, .data, .handle, .sentinel, .sentinel, .pinned], laidTests := true, laidLooks := .later }
def BookOpensCardSaid : Prop := Claim7.holds Tryz.pinned (.plain (OpenSpec.ofChange bookOpensSpec)) bookOpensCard

/-- THE TIED CARD OF 'platterholdlaw4.DeskAnswers'. -/
def deskAnswersCard : Claim7 := { stood := { row := deskAnswersRow, standIns := [], harness := (true, "6008dc5c61c6e9d810238a835f292fb8395569494bc4104a58284856f81918a9"), looks := true }, kinds := [], alts := [], laidByText := true, laidKinds := [.data, .data, .data, .data, .handle, .sentinel, .sentinel, .pinned], laidTests := true, laidLooks := .later }
def DeskAnswersCardSaid : Prop := Claim7.holds Tryz.pinned (.plain (OpenSpec.ofChange deskAnswersSpec)) deskAnswersCard

/-- THE TIED CARD OF 'platterholdlaw4.DeskBegins'. -/
def deskBeginsCard : Claim7 := { stood := { row := deskBeginsRow, standIns := [], harness := (true, "6008dc5c61c6e9d810238a835f292fb8395569494bc4104a58284856f81918a9"), looks := true }, kinds := [], alts := [], laidByText := true, laidKinds := [.data, .data, .data, .data, .handle, .sentinel, .sentinel, .pinned], laidTests := true, laidLooks := .later }
def DeskBeginsCardSaid : Prop := Claim7.holds Tryz.pinned (.plain (OpenSpec.ofChange deskBeginsSpec)) deskBeginsCard

/-- THE TIED CARD OF 'platterholdlaw4.DeskLines'. -/
def deskLinesCard : Claim7 := { stood := { row := deskLinesRow, standIns := [], harness := (true, "6008dc5c61c6e9d810238a835f292fb8395569494bc4104a58284856f81918a9"), looks := true }, kinds := [], alts := [], laidByText := true, laidKinds := [.data, .data, .data, .data, .handle, .sentinel, .sentinel, .pinned], laidTests := true, laidLooks := .later }
def DeskLinesCardSaid : Prop := Claim7.holds Tryz.pinned (.plain (OpenSpec.ofChange deskLinesSpec)) deskLinesCard

/-- THE TIED CARD OF 'platterholdlaw4.DeskKeeps'. -/
def deskKeepsCard : Claim7 := { stood := { row := deskKeepsRow, standIns := [], harness := (true, "6008dc5c61c6e9d810238a835f292fb8395569494bc4104a58284856f81918a9"), looks := true }, kinds := [], alts := [], laidByText := true, laidKinds := [.data, .data, .data, .data, .handle, .sentinel, .sentinel, .pinned], laidTests := true, laidLooks := .later }
def DeskKeepsCardSaid : Prop := Claim7.holds Tryz.pinned (.plain (OpenSpec.ofChange deskKeepsSpec)) deskKeepsCard

/-- THE TIED CARD OF 'platterholdtop.TopDesk'. -/
def topDeskCard : Claim7 := { stood := { row := topDeskRow, standIns := [], harness := (true, "6008dc5c61c6e9d810238a835f292fb8395569494bc4104a58284856f81918a9"), looks := true }, kinds := [], alts := [], laidByText := true, laidKinds := [.data, .data, .data, .data, .handle, .sentinel, .sentinel, .pinned], laidTests := true, laidLooks := .later }
def TopDeskCardSaid : Prop := Claim7.holds Tryz.pinned (.plain (OpenSpec.ofChange topDeskSpec)) topDeskCard

/-- THE SECOND FORM's CARD OF 'platterholdlaw4.BookTurned'. -/
def bookTurnedUptoCard : Claim7 := { stood := { row := bookTurnedUptoRow, standIns := [], harness := (true, "6008dc5c61c6e9d810238a835f292fb8395569494bc4104a58284856f81918a9"), looks := true }, kinds := [], alts := [], laidByText := true, laidKinds := [.data, .data, .data, .data, .handle, .sentinel, .sentinel, .pinned], laidTests := true, laidLooks := .later }
def BookTurnedUptoCardSaid : Prop := Claim7.holds Tryz.pinned (.plain (OpenSpec.upto bookTurnedSpec)) bookTurnedUptoCard

/-- THE SECOND FORM's CARD OF 'platterholdlaw4.BookOpens'. -/
def bookOpensUptoCard : Claim7 := { stood := { row := bookOpensUptoRow, standIns := [], harness := (true, "6008dc5c61c6e9d810238a835f292fb8395569494bc4104a58284856f81918a9"), looks := true }, kinds := [], alts := [], laidByText := true, laidKinds := [.data, .data, .data, .data, .handle, .sentinel, .sentinel, .pinned], laidTests := true, laidLooks := .later }
def BookOpensUptoCardSaid : Prop := Claim7.holds Tryz.pinned (.plain (OpenSpec.upto bookOpensSpec)) bookOpensUptoCard

/-- THE SECOND FORM's CARD OF 'platterholdlaw4.DeskAnswers'. -/
def deskAnswersUptoCard : Claim7 := { stood := { row := deskAnswersUptoRow, standIns := [], harness := (true, "6008dc5c61c6e9d810238a835f292fb8395569494bc4104a58284856f81918a9"), looks := true }, kinds := [], alts := [], laidByText := true, laidKinds := [.data, .data, .data, .data, .handle, .sentinel, .sentinel, .pinned], laidTests := true, laidLooks := .later }
def DeskAnswersUptoCardSaid : Prop := Claim7.holds Tryz.pinned (.plain (OpenSpec.upto deskAnswersSpec)) deskAnswersUptoCard

/-- THE SECOND FORM's CARD OF 'platterholdlaw4.DeskBegins'. -/
def deskBeginsUptoCard : Claim7 := { stood := { row := deskBeginsUptoRow, standIns := [], harness := (true, "6008dc5c61c6e9d810238a835f292fb8395569494bc4104a58284856f81918a9"), looks := true }, kinds := [], alts := [], laidByText := true, laidKinds := [.data, .data, .data, .data, .handle, .sentinel, .sentinel, .pinned], laidTests := true, laidLooks := .later }
def DeskBeginsUptoCardSaid : Prop := Claim7.holds Tryz.pinned (.plain (OpenSpec.upto deskBeginsSpec)) deskBeginsUptoCard

/-- THE SECOND FORM's CARD OF 'platterholdlaw4.DeskLines'. -/
def deskLinesUptoCard : Claim7 := { stood := { row := deskLinesUptoRow, standIns := [], harness := (true, "6008dc5c61c6e9d810238a835f292fb8395569494bc4104a58284856f81918a9"), looks := true }, kinds := [], alts := [], laidByText := true, laidKinds := [.data, .data, .data, .data, .handle, .sentinel, .sentinel, .pinned], laidTests := true, laidLooks := .later }
def DeskLinesUptoCardSaid : Prop := Claim7.holds Tryz.pinned (.plain (OpenSpec.upto deskLinesSpec)) deskLinesUptoCard

/-- THE SECOND FORM's CARD OF 'platterholdlaw4.DeskKeeps'. -/
def deskKeepsUptoCard : Claim7 := { stood := { row := deskKeepsUptoRow, standIns := [], harness := (true, "6008dc5c61c6e9d810238a835f292fb8395569494bc4104a58284856f81918a9"), looks := true }, kinds := [], alts := [], laidByText := true, laidKinds := [.data, .data, .data, .data, .handle, .sentinel, .sentinel, .pinned], laidTests := true, laidLooks := .later }
def DeskKeepsUptoCardSaid : Prop := Claim7.holds Tryz.pinned (.plain (OpenSpec.upto deskKeepsSpec)) deskKeepsUptoCard

/-- THE SECOND FORM's CARD OF 'platterholdtop.TopDesk'. -/
def topDeskUptoCard : Claim7 := { stood := { row := topDeskUptoRow, standIns := [], harness := (true, "6008dc5c61c6e9d810238a835f292fb8395569494bc4104a58284856f81918a9"), looks := true }, kinds := [], alts := [], laidByText := true, laidKinds := [.data, .data, .data, .data, .handle, .sentinel, .sentinel, .pinned], laidTests := true, laidLooks := .later }
def TopDeskUptoCardSaid : Prop := Claim7.holds Tryz.pinned (.plain (OpenSpec.upto topDeskSpec)) topDeskUptoCard
end Rows
end Go.Proofs.YtfofepmkjjeldaaGreatDoor
