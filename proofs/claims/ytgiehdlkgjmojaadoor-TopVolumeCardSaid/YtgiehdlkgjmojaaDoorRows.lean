/-
  NARROWER THAN 'FOR EVERY INPUT', by the rows' own cells (each row's printed sentence says how): TopVolume: laid · SnapKeeps: laid · SnapTurn: laid · SnapDrop: laid · WearSays: laid · SnapPlays: laid.
  DERIVED. THE GIVEN ROWS OF THIS SEAT. 6 by the template 'for every input the law returns true; each argument reads behind the call as it read before'; 0 by the template 'total and deterministic' (their statements: YtgiehdlkgjmojaaDoorTotals.lean).
  GIVEN WITH THE SEED: the statements are not yours to turn. If you find one false, say at which input.
  Laid BY PROGRAM, IN A SANDBOX (cutbox-rows.mjs): the forced cells as the released guide's own fill.sh prints them over the translation 35437c80c760ec81… (all of the seat's roots in one cut). By AI agents, Wed Nov 11 2026. No macro, syntax, notation, axiom, sorry.
-/
import Derived.Test.YtgiehdlkgjmojaaDoorChecked
import GoSem.Claim
import GoSem.ClaimJoined
import GoSem.ClaimMapViews
import Derived.JoinedTies
import Derived.KernelRfl
namespace Go.Proofs.YtgiehdlkgjmojaaDoor
/- THE CELL 'sum', in the pinned program and in every row, IS THE sha256 OF THE DUMP (.gsa) THAT YtgiehdlkgjmojaaDoorProg.lean LOADS. Nothing in Lean hashes anything: it is a label: what it is worth is what the hold of that sum in a sandbox is worth. -/
noncomputable def Tryd.pinned : Pinned := { name := "ytgiehdlkgjmojaadoor", sum := "35437c80c760ec816db21d9989fcce086ed286c23b92608adcc8a553d00542d6", checked := Tryd.checked }
namespace Rows
def none {H : Type} : Left H := { results := [], args := [] }

/- WHAT THE LISTED PACKAGE-LEVEL VARIABLES READ AS WHEN THE CALL BEGINS. Each datum BY PROGRAM (the guide's laid-datum.mjs) off the statement by which the dump's own 'gosem.cut.vars' lays the variable. In a bare row this is a premise. The card (YtgiehdlkgjmojaaDoorCards.lean) ties it to the program's text. -/
def laid_math_bits_deBruijn32tab {H : Type} : DataW H := .agg [.lit (.int .u8 0), .lit (.int .u8 1), .lit (.int .u8 28), .lit (.int .u8 2), .lit (.int .u8 29), .lit (.int .u8 14), .lit (.int .u8 24), .lit (.int .u8 3), .lit (.int .u8 30), .lit (.int .u8 22), .lit (.int .u8 20), .lit (.int .u8 15), .lit (.int .u8 25), .lit (.int .u8 17), .lit (.int .u8 4), .lit (.int .u8 8), .lit (.int .u8 31), .lit (.int .u8 27), .lit (.int .u8 13), .lit (.int .u8 23), .lit (.int .u8 21), .lit (.int .u8 19), .lit (.int .u8 16), .lit (.int .u8 7), .lit (.int .u8 26), .lit (.int .u8 12), .lit (.int .u8 18), .lit (.int .u8 6), .lit (.int .u8 11), .lit (.int .u8 5), .lit (.int .u8 10), .lit (.int .u8 9)]
def laid_errors_errorType {H : Type} : DataW H := .iface "internal/reflectlite.rtype" (.agg [.ptr (.lit (.string [101, 114, 114, 111, 114]))])

/-- 'platterholdtop.TopVolume': WHATEVER THE INPUT: true; the input reads as it did. -/
def topVolumeSpec : ChangeSpec := { name := "topVolume", fn := fun _ => fun
  | [d1, d2, d3] => { results := [.lit (.bool true)], args := [d1, d2, d3] }
  | _ => none }
def topVolumeRow : OpenClaim := { program := "ytgiehdlkgjmojaadoor", sum := "35437c80c760ec816db21d9989fcce086ed286c23b92608adcc8a553d00542d6", func := "platterhold/platterholdtop.TopVolume", spec := "topVolume", named := ["math/bits.deBruijn32tab"], apart := false, laid := [("math/bits.deBruijn32tab", laid_math_bits_deBruijn32tab)] }
def TopVolumeSaid : Prop := topVolumeRow.holds Tryd.pinned (OpenSpec.ofChange topVolumeSpec)

/-- ITS FALSE NEIGHBOUR: 'it returns false'. Refute it at one input. -/
def topVolumeWrong : ChangeSpec := { name := "topVolume", fn := fun _ => fun
  | [d1, d2, d3] => { results := [.lit (.bool false)], args := [d1, d2, d3] }
  | _ => none }
def TopVolumeWrongFalsely : Prop := topVolumeRow.holds Tryd.pinned (OpenSpec.ofChange topVolumeWrong)

/-- 'platterholdlaw4.SnapKeeps': WHATEVER THE INPUT: true; the input reads as it did. -/
def snapKeepsSpec : ChangeSpec := { name := "snapKeeps", fn := fun _ => fun
  | [d1, d2, d3] => { results := [.lit (.bool true)], args := [d1, d2, d3] }
  | _ => none }
def snapKeepsRow : OpenClaim := { program := "ytgiehdlkgjmojaadoor", sum := "35437c80c760ec816db21d9989fcce086ed286c23b92608adcc8a553d00542d6", func := "platterhold/platterholdlaw4.SnapKeeps", spec := "snapKeeps", named := ["math/bits.deBruijn32tab"], apart := false, laid := [("math/bits.deBruijn32tab", laid_math_bits_deBruijn32tab)] }
def SnapKeepsSaid : Prop := snapKeepsRow.holds Tryd.pinned (OpenSpec.ofChange snapKeepsSpec)

/-- ITS FALSE NEIGHBOUR: 'it returns false'. Refute it at one input. -/
def snapKeepsWrong : ChangeSpec := { name := "snapKeeps", fn := fun _ => fun
  | [d1, d2, d3] => { results := [.lit (.bool false)], args := [d1, d2, d3] }
  | _ => none }
def SnapKeepsWrongFalsely : Prop := snapKeepsRow.holds Tryd.pinned (OpenSpec.ofChange snapKeepsWrong)

/-- 'platterholdlaw4.SnapTurn': WHATEVER THE INPUT: true; the input reads as it did. -/
def snapTurnSpec : ChangeSpec := { name := "snapTurn", fn := fun _ => fun
  | [d1, d2, d3] => { results := [.lit (.bool true)], args := [d1, d2, d3] }
  | _ => none }
def snapTurnRow : OpenClaim := { program := "ytgiehdlkgjmojaadoor", sum := "35437c80c760ec816db21d9989fcce086ed286c23b92608adcc8a553d00542d6", func := "platterhold/platterholdlaw4.SnapTurn", spec := "snapTurn", named := ["math/bits.deBruijn32tab"], apart := false, laid := [("math/bits.deBruijn32tab", laid_math_bits_deBruijn32tab)] }
def SnapTurnSaid : Prop := snapTurnRow.holds Tryd.pinned (OpenSpec.ofChange snapTurnSpec)

/-- ITS FALSE NEIGHBOUR: 'it returns false'. Refute it at one input. -/
def snapTurnWrong : ChangeSpec := { name := "snapTurn", fn := fun _ => fun
  | [d1, d2, d3] => { results := [.lit (.bool false)], args := [d1, d2, d3] }
  | _ => none }
def SnapTurnWrongFalsely : Prop := snapTurnRow.holds Tryd.pinned (OpenSpec.ofChange snapTurnWrong)

/-- 'platterholdlaw4.SnapDrop': WHATEVER THE INPUT: true; the input reads as it did. -/
def snapDropSpec : ChangeSpec := { name := "snapDrop", fn := fun _ => fun
  | [d1, d2] => { results := [.lit (.bool true)], args := [d1, d2] }
  | _ => none }
def snapDropRow : OpenClaim := { program := "ytgiehdlkgjmojaadoor", sum := "35437c80c760ec816db21d9989fcce086ed286c23b92608adcc8a553d00542d6", func := "platterhold/platterholdlaw4.SnapDrop", spec := "snapDrop", named := ["math/bits.deBruijn32tab"], apart := false, laid := [("math/bits.deBruijn32tab", laid_math_bits_deBruijn32tab)] }
def SnapDropSaid : Prop := snapDropRow.holds Tryd.pinned (OpenSpec.ofChange snapDropSpec)

/-- ITS FALSE NEIGHBOUR: 'it returns false'. Refute it at one input. -/
def snapDropWrong : ChangeSpec := { name := "snapDrop", fn := fun _ => fun
  | [d1, d2] => { results := [.lit (.bool false)], args := [d1, d2] }
  | _ => none }
def SnapDropWrongFalsely : Prop := snapDropRow.holds Tryd.pinned (OpenSpec.ofChange snapDropWrong)

/-- 'platterholdlaw4.WearSays': WHATEVER THE INPUT: true; the input reads as it did. -/
def wearSaysSpec : ChangeSpec := { name := "wearSays", fn := fun _ => fun
  | [d1, d2] => { results := [.lit (.bool true)], args := [d1, d2] }
  | _ => none }
def wearSaysRow : OpenClaim := { program := "ytgiehdlkgjmojaadoor", sum := "35437c80c760ec816db21d9989fcce086ed286c23b92608adcc8a553d00542d6", func := "platterhold/platterholdlaw4.WearSays", spec := "wearSays", inPlace := ["internal/reflectlite.ValueOf", "(internal/reflectlite.Value).Type", "(internal/reflectlite.Value).IsNil", "internal/reflectlite.TypeOf", "(internal/reflectlite.Value).Elem", "(internal/reflectlite.Value).Set"], unfollowed := true, recurses := true, named := ["errors.errorType"], apart := false, laid := [("errors.errorType", laid_errors_errorType)] }
def WearSaysSaid : Prop := wearSaysRow.holds Tryd.pinned (OpenSpec.ofChange wearSaysSpec)

/-- ITS FALSE NEIGHBOUR: 'it returns false'. Refute it at one input. -/
def wearSaysWrong : ChangeSpec := { name := "wearSays", fn := fun _ => fun
  | [d1, d2] => { results := [.lit (.bool false)], args := [d1, d2] }
  | _ => none }
def WearSaysWrongFalsely : Prop := wearSaysRow.holds Tryd.pinned (OpenSpec.ofChange wearSaysWrong)

/-- 'platterholdlaw4.SnapPlays': WHATEVER THE INPUT: true; the input reads as it did. -/
def snapPlaysSpec : ChangeSpec := { name := "snapPlays", fn := fun _ => fun
  | [d] => { results := [.lit (.bool true)], args := [d] }
  | _ => none }
def snapPlaysRow : OpenClaim := { program := "ytgiehdlkgjmojaadoor", sum := "35437c80c760ec816db21d9989fcce086ed286c23b92608adcc8a553d00542d6", func := "platterhold/platterholdlaw4.SnapPlays", spec := "snapPlays", inPlace := ["internal/reflectlite.ValueOf", "(internal/reflectlite.Value).Type", "(internal/reflectlite.Value).IsNil", "internal/reflectlite.TypeOf", "(internal/reflectlite.Value).Elem", "(internal/reflectlite.Value).Set"], unfollowed := true, recurses := true, named := ["math/bits.deBruijn32tab", "errors.errorType"], apart := false, laid := [("math/bits.deBruijn32tab", laid_math_bits_deBruijn32tab), ("errors.errorType", laid_errors_errorType)] }
def SnapPlaysSaid : Prop := snapPlaysRow.holds Tryd.pinned (OpenSpec.ofChange snapPlaysSpec)

/-- ITS FALSE NEIGHBOUR: 'it returns false'. Refute it at one input. -/
def snapPlaysWrong : ChangeSpec := { name := "snapPlays", fn := fun _ => fun
  | [d] => { results := [.lit (.bool false)], args := [d] }
  | _ => none }
def SnapPlaysWrongFalsely : Prop := snapPlaysRow.holds Tryd.pinned (OpenSpec.ofChange snapPlaysWrong)

/- THE SECOND FORM. 'bulk': how many values and letters a reading holds, each counted each time it is reached (what is shared counts as often as it is met; a slice's spare places count too). A statement '..UptoSaid' is the law's where the arguments, and the package variables that the reading takes, are together of bulk at most 1048576: NARROWER than '..Said'. Prove '..Said' where nothing that the law and all that it calls make is longer than what came in: it says more and counts as full. Else prove '..UptoSaid'. A law counts once. -/
mutual
def uptoBulk {H : Type} : DataW H → Nat
  | .lit (.string bytes) => bytes.length + 1
  | .lit _ => 1
  | .nil => 1
  | .ptr d => uptoBulk d + 1
  | .slice elems spare => uptoBulkAll elems + uptoBulkAll spare + 1
  | .agg parts => uptoBulkAll parts + 1
  | .iface _ d => uptoBulk d + 1
  | .map entries => uptoBulkEntries entries + 1
  | .held _ => 1
def uptoBulkAll {H : Type} : List (DataW H) → Nat
  | [] => 0
  | d :: r => uptoBulk d + uptoBulkAll r
def uptoBulkEntries {H : Type} : List (Lit × DataW H) → Nat
  | [] => 0
  | x :: r => uptoBulkEntry x + uptoBulkEntries r
def uptoBulkEntry {H : Type} : Lit × DataW H → Nat
  | (.string bytes, d) => bytes.length + uptoBulk d + 1
  | (_, d) => uptoBulk d + 1
 end
def uptoSmall : (H : Type) → List (DataW H) → Bool := fun _ ds => decide (uptoBulkAll ds ≤ 1048576)
def OpenSpec.upto (s : _root_.Go.ChangeSpec) : _root_.Go.OpenSpec := { _root_.Go.OpenSpec.ofChange s with cond := some uptoSmall }

/-- 'platterholdtop.TopVolume', WHERE WHAT IT READS IS OF BULK AT MOST 1048576: true; the input reads as it did. -/
def topVolumeUptoRow : OpenClaim := { program := "ytgiehdlkgjmojaadoor", sum := "35437c80c760ec816db21d9989fcce086ed286c23b92608adcc8a553d00542d6", func := "platterhold/platterholdtop.TopVolume", spec := "topVolume", named := ["math/bits.deBruijn32tab"], apart := false, laid := [("math/bits.deBruijn32tab", laid_math_bits_deBruijn32tab)], narrowed := true }
def TopVolumeUptoSaid : Prop := topVolumeUptoRow.holds Tryd.pinned (OpenSpec.upto topVolumeSpec)

/-- 'platterholdlaw4.SnapKeeps', WHERE WHAT IT READS IS OF BULK AT MOST 1048576: true; the input reads as it did. -/
def snapKeepsUptoRow : OpenClaim := { program := "ytgiehdlkgjmojaadoor", sum := "35437c80c760ec816db21d9989fcce086ed286c23b92608adcc8a553d00542d6", func := "platterhold/platterholdlaw4.SnapKeeps", spec := "snapKeeps", named := ["math/bits.deBruijn32tab"], apart := false, laid := [("math/bits.deBruijn32tab", laid_math_bits_deBruijn32tab)], narrowed := true }
def SnapKeepsUptoSaid : Prop := snapKeepsUptoRow.holds Tryd.pinned (OpenSpec.upto snapKeepsSpec)

/-- 'platterholdlaw4.SnapTurn', WHERE WHAT IT READS IS OF BULK AT MOST 1048576: true; the input reads as it did. -/
def snapTurnUptoRow : OpenClaim := { program := "ytgiehdlkgjmojaadoor", sum := "35437c80c760ec816db21d9989fcce086ed286c23b92608adcc8a553d00542d6", func := "platterhold/platterholdlaw4.SnapTurn", spec := "snapTurn", named := ["math/bits.deBruijn32tab"], apart := false, laid := [("math/bits.deBruijn32tab", laid_math_bits_deBruijn32tab)], narrowed := true }
def SnapTurnUptoSaid : Prop := snapTurnUptoRow.holds Tryd.pinned (OpenSpec.upto snapTurnSpec)

/-- 'platterholdlaw4.SnapDrop', WHERE WHAT IT READS IS OF BULK AT MOST 1048576: true; the input reads as it did. -/
def snapDropUptoRow : OpenClaim := { program := "ytgiehdlkgjmojaadoor", sum := "35437c80c760ec816db21d9989fcce086ed286c23b92608adcc8a553d00542d6", func := "platterhold/platterholdlaw4.SnapDrop", spec := "snapDrop", named := ["math/bits.deBruijn32tab"], apart := false, laid := [("math/bits.deBruijn32tab", laid_math_bits_deBruijn32tab)], narrowed := true }
def SnapDropUptoSaid : Prop := snapDropUptoRow.holds Tryd.pinned (OpenSpec.upto snapDropSpec)

/-- 'platterholdlaw4.WearSays', WHERE WHAT IT READS IS OF BULK AT MOST 1048576: true; the input reads as it did. -/
def wearSaysUptoRow : OpenClaim := { program := "ytgiehdlkgjmojaadoor", sum := "35437c80c760ec816db21d9989fcce086ed286c23b92608adcc8a553d00542d6", func := "platterhold/platterholdlaw4.WearSays", spec := "wearSays", inPlace := ["internal/reflectlite.ValueOf", "(internal/reflectlite.Value).Type", "(internal/reflectlite.Value).IsNil", "internal/reflectlite.TypeOf", "(internal/reflectlite.Value).Elem", "(internal/reflectlite.Value).Set"], unfollowed := true, recurses := true, named := ["errors.errorType"], apart := false, laid := [("errors.errorType", laid_errors_errorType)], narrowed := true }
def WearSaysUptoSaid : Prop := wearSaysUptoRow.holds Tryd.pinned (OpenSpec.upto wearSaysSpec)

/-- 'platterholdlaw4.SnapPlays', WHERE WHAT IT READS IS OF BULK AT MOST 1048576: true; the input reads as it did. -/
def snapPlaysUptoRow : OpenClaim := { program := "ytgiehdlkgjmojaadoor", sum := "35437c80c760ec816db21d9989fcce086ed286c23b92608adcc8a553d00542d6", func := "platterhold/platterholdlaw4.SnapPlays", spec := "snapPlays", inPlace := ["internal/reflectlite.ValueOf", "(internal/reflectlite.Value).Type", "(internal/reflectlite.Value).IsNil", "internal/reflectlite.TypeOf", "(internal/reflectlite.Value).Elem", "(internal/reflectlite.Value).Set"], unfollowed := true, recurses := true, named := ["math/bits.deBruijn32tab", "errors.errorType"], apart := false, laid := [("math/bits.deBruijn32tab", laid_math_bits_deBruijn32tab), ("errors.errorType", laid_errors_errorType)], narrowed := true }
def SnapPlaysUptoSaid : Prop := snapPlaysUptoRow.holds Tryd.pinned (OpenSpec.upto snapPlaysSpec)

end Rows
end Go.Proofs.YtgiehdlkgjmojaaDoor
