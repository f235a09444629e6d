/-
  DERIVED. GIVEN WITH THE SEED: THE CARDS: each row of YtgiehdlkgjmojaaDoorRows.lean that lists a variable, with what it lists TIED to the program's text (the seventh form; the later family's looks); each row that meets fmt, with fmt's text TOLD by the authors' own Lean function (tested against real Go, not proved from fmt's source: count such statements apart). THE CARD IS WHAT COUNTS. Prove the row's statement (the work); the ties are given (YtgiehdlkgjmojaaDoorTie.lean); close each card by the builder's one call (the guide's Derived/Test/ToyasCard.lean, 'card_holds'). Laid BY PROGRAM, IN A SANDBOX (cutbox-door.mjs). By AI agents, Wed Nov 11 2026. No macro, syntax, notation, axiom, sorry.
-/
import Derived.Test.YtgiehdlkgjmojaaDoorRows
import GoSem.ClaimSeven
namespace Go.Proofs.YtgiehdlkgjmojaaDoor
namespace Rows

/-- THE TIED CARD OF 'platterholdtop.TopVolume'. -/
def topVolumeCard : Claim7 := { stood := { row := topVolumeRow, standIns := [], harness := (true, "32757b873a82293dae86633b61334f6ae8f827e57179b12315c0daa14cc4dd5a"), looks := true }, kinds := [], alts := [], laidByText := true, laidKinds := [.data], laidTests := true, laidLooks := .later }
def TopVolumeCardSaid : Prop := Claim7.holds Tryd.pinned (.plain (OpenSpec.ofChange topVolumeSpec)) topVolumeCard

/-- THE TIED CARD OF 'platterholdlaw4.SnapKeeps'. -/
def snapKeepsCard : Claim7 := { stood := { row := snapKeepsRow, standIns := [], harness := (true, "32757b873a82293dae86633b61334f6ae8f827e57179b12315c0daa14cc4dd5a"), looks := true }, kinds := [], alts := [], laidByText := true, laidKinds := [.data], laidTests := true, laidLooks := .later }
def SnapKeepsCardSaid : Prop := Claim7.holds Tryd.pinned (.plain (OpenSpec.ofChange snapKeepsSpec)) snapKeepsCard

/-- THE TIED CARD OF 'platterholdlaw4.SnapTurn'. -/
def snapTurnCard : Claim7 := { stood := { row := snapTurnRow, standIns := [], harness := (true, "32757b873a82293dae86633b61334f6ae8f827e57179b12315c0daa14cc4dd5a"), looks := true }, kinds := [], alts := [], laidByText := true, laidKinds := [.data], laidTests := true, laidLooks := .later }
def SnapTurnCardSaid : Prop := Claim7.holds Tryd.pinned (.plain (OpenSpec.ofChange snapTurnSpec)) snapTurnCard

/-- THE TIED CARD OF 'platterholdlaw4.SnapDrop'. -/
def snapDropCard : Claim7 := { stood := { row := snapDropRow, standIns := [], harness := (true, "32757b873a82293dae86633b61334f6ae8f827e57179b12315c0daa14cc4dd5a"), looks := true }, kinds := [], alts := [], laidByText := true, laidKinds := [.data], laidTests := true, laidLooks := .later }
def SnapDropCardSaid : Prop := Claim7.holds Tryd.pinned (.plain (OpenSpec.ofChange snapDropSpec)) snapDropCard

/-- THE TIED CARD OF 'platterholdlaw4.WearSays'. -/
def wearSaysCard : Claim7 := { stood := { row := wearSaysRow, standIns := [], harness := (true, "32757b873a82293dae86633b61334f6ae8f827e57179b12315c0daa14cc4dd5a"), looks := true }, kinds := [], alts := [], laidByText := true, laidKinds := [.handle], laidTests := true, laidLooks := .later }
def WearSaysCardSaid : Prop := Claim7.holds Tryd.pinned (.plain (OpenSpec.ofChange wearSaysSpec)) wearSaysCard

/-- THE TIED CARD OF 'platterholdlaw4.SnapPlays'. -/
def snapPlaysCard : Claim7 := { stood := { row := snapPlaysRow, standIns := [], harness := (true, "32757b873a82293dae86633b61334f6ae8f827e57179b12315c0daa14cc4dd5a"), looks := true }, kinds := [], alts := [], laidByText := true, laidKinds := [.data, .handle], laidTests := true, laidLooks := .later }
def SnapPlaysCardSaid : Prop := Claim7.holds Tryd.pinned (.plain (OpenSpec.ofChange snapPlaysSpec)) snapPlaysCard

/-- THE SECOND FORM's CARD OF 'platterholdtop.TopVolume'. -/
def topVolumeUptoCard : Claim7 := { stood := { row := topVolumeUptoRow, standIns := [], harness := (true, "32757b873a82293dae86633b61334f6ae8f827e57179b12315c0daa14cc4dd5a"), looks := true }, kinds := [], alts := [], laidByText := true, laidKinds := [.data], laidTests := true, laidLooks := .later }
def TopVolumeUptoCardSaid : Prop := Claim7.holds Tryd.pinned (.plain (OpenSpec.upto topVolumeSpec)) topVolumeUptoCard

/-- THE SECOND FORM's CARD OF 'platterholdlaw4.SnapKeeps'. -/
def snapKeepsUptoCard : Claim7 := { stood := { row := snapKeepsUptoRow, standIns := [], harness := (true, "32757b873a82293dae86633b61334f6ae8f827e57179b12315c0daa14cc4dd5a"), looks := true }, kinds := [], alts := [], laidByText := true, laidKinds := [.data], laidTests := true, laidLooks := .later }
def SnapKeepsUptoCardSaid : Prop := Claim7.holds Tryd.pinned (.plain (OpenSpec.upto snapKeepsSpec)) snapKeepsUptoCard

/-- THE SECOND FORM's CARD OF 'platterholdlaw4.SnapTurn'. -/
def snapTurnUptoCard : Claim7 := { stood := { row := snapTurnUptoRow, standIns := [], harness := (true, "32757b873a82293dae86633b61334f6ae8f827e57179b12315c0daa14cc4dd5a"), looks := true }, kinds := [], alts := [], laidByText := true, laidKinds := [.data], laidTests := true, laidLooks := .later }
def SnapTurnUptoCardSaid : Prop := Claim7.holds Tryd.pinned (.plain (OpenSpec.upto snapTurnSpec)) snapTurnUptoCard

/-- THE SECOND FORM's CARD OF 'platterholdlaw4.SnapDrop'. -/
def snapDropUptoCard : Claim7 := { stood := { row := snapDropUptoRow, standIns := [], harness := (true, "32757b873a82293dae86633b61334f6ae8f827e57179b12315c0daa14cc4dd5a"), looks := true }, kinds := [], alts := [], laidByText := true, laidKinds := [.data], laidTests := true, laidLooks := .later }
def SnapDropUptoCardSaid : Prop := Claim7.holds Tryd.pinned (.plain (OpenSpec.upto snapDropSpec)) snapDropUptoCard

/-- THE SECOND FORM's CARD OF 'platterholdlaw4.WearSays'. -/
def wearSaysUptoCard : Claim7 := { stood := { row := wearSaysUptoRow, standIns := [], harness := (true, "32757b873a82293dae86633b61334f6ae8f827e57179b12315c0daa14cc4dd5a"), looks := true }, kinds := [], alts := [], laidByText := true, laidKinds := [.handle], laidTests := true, laidLooks := .later }
def WearSaysUptoCardSaid : Prop := Claim7.holds Tryd.pinned (.plain (OpenSpec.upto wearSaysSpec)) wearSaysUptoCard

/-- THE SECOND FORM's CARD OF 'platterholdlaw4.SnapPlays'. -/
def snapPlaysUptoCard : Claim7 := { stood := { row := snapPlaysUptoRow, standIns := [], harness := (true, "32757b873a82293dae86633b61334f6ae8f827e57179b12315c0daa14cc4dd5a"), looks := true }, kinds := [], alts := [], laidByText := true, laidKinds := [.data, .handle], laidTests := true, laidLooks := .later }
def SnapPlaysUptoCardSaid : Prop := Claim7.holds Tryd.pinned (.plain (OpenSpec.upto snapPlaysSpec)) snapPlaysUptoCard
end Rows
end Go.Proofs.YtgiehdlkgjmojaaDoor
