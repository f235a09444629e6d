/-
  NARROWER THAN 'FOR EVERY INPUT', by the rows' own cells (each row's printed sentence says how): FtlPlays: laid · DeltaSays: laid · TopPages: laid.
  DERIVED. THE GIVEN ROWS OF THIS SEAT. 3 by the template 'for every input the law returns true; each argument reads behind the call as it read before'; 0 by the template 'total and deterministic' (their statements: YtglcljeeigilnaaDoorTotals.lean).
  GIVEN WITH THE SEED: the statements are not yours to turn. If you find one false, say at which input.
  Laid BY PROGRAM, IN A SANDBOX (cutbox-rows.mjs): the forced cells as the released guide's own fill.sh prints them over the translation d5f9f5ee6b26b7a7… (all of the seat's roots in one cut). By AI agents, Wed Nov 11 2026. No macro, syntax, notation, axiom, sorry.
-/
import Derived.Test.YtglcljeeigilnaaDoorChecked
import GoSem.Claim
import GoSem.ClaimJoined
import GoSem.ClaimMapViews
import Derived.JoinedTies
import Derived.KernelRfl
namespace Go.Proofs.YtglcljeeigilnaaDoor
/- THE CELL 'sum', in the pinned program and in every row, IS THE sha256 OF THE DUMP (.gsa) THAT YtglcljeeigilnaaDoorProg.lean LOADS. Nothing in Lean hashes anything: it is a label: what it is worth is what the hold of that sum in a sandbox is worth. -/
noncomputable def Tryd.pinned : Pinned := { name := "ytglcljeeigilnaadoor", sum := "d5f9f5ee6b26b7a7b3668a7d340465e5eaf949343683f5397993da6b48cad2c7", checked := Tryd.checked }
namespace Rows
def none {H : Type} : Left H := { results := [], args := [] }

/- WHAT THE LISTED PACKAGE-LEVEL VARIABLES READ AS WHEN THE CALL BEGINS. Each datum BY PROGRAM (the guide's laid-datum.mjs) off the statement by which the dump's own 'gosem.cut.vars' lays the variable. In a bare row this is a premise. The card (YtglcljeeigilnaaDoorCards.lean) ties it to the program's text. -/
def laid_errors_errorType {H : Type} : DataW H := .iface "internal/reflectlite.rtype" (.agg [.ptr (.lit (.string [101, 114, 114, 111, 114]))])

/-- 'platterholdlaw4.FtlPlays': WHATEVER THE INPUT: true; the input reads as it did. -/
def ftlPlaysSpec : ChangeSpec := { name := "ftlPlays", fn := fun _ => fun
  | [d] => { results := [.lit (.bool true)], args := [d] }
  | _ => none }
def ftlPlaysRow : OpenClaim := { program := "ytglcljeeigilnaadoor", sum := "d5f9f5ee6b26b7a7b3668a7d340465e5eaf949343683f5397993da6b48cad2c7", func := "platterhold/platterholdlaw4.FtlPlays", spec := "ftlPlays", inPlace := ["internal/reflectlite.ValueOf", "(internal/reflectlite.Value).Type", "(internal/reflectlite.Value).IsNil", "internal/reflectlite.TypeOf", "(internal/reflectlite.Value).Elem", "(internal/reflectlite.Value).Set"], unfollowed := true, recurses := true, named := ["errors.errorType"], apart := false, laid := [("errors.errorType", laid_errors_errorType)] }
def FtlPlaysSaid : Prop := ftlPlaysRow.holds Tryd.pinned (OpenSpec.ofChange ftlPlaysSpec)

/-- ITS FALSE NEIGHBOUR: 'it returns false'. Refute it at one input. -/
def ftlPlaysWrong : ChangeSpec := { name := "ftlPlays", fn := fun _ => fun
  | [d] => { results := [.lit (.bool false)], args := [d] }
  | _ => none }
def FtlPlaysWrongFalsely : Prop := ftlPlaysRow.holds Tryd.pinned (OpenSpec.ofChange ftlPlaysWrong)

/-- 'platterholdlaw4.DeltaSays': WHATEVER THE INPUT: true; the input reads as it did. -/
def deltaSaysSpec : ChangeSpec := { name := "deltaSays", fn := fun _ => fun
  | [d1, d2, d3, d4] => { results := [.lit (.bool true)], args := [d1, d2, d3, d4] }
  | _ => none }
def deltaSaysRow : OpenClaim := { program := "ytglcljeeigilnaadoor", sum := "d5f9f5ee6b26b7a7b3668a7d340465e5eaf949343683f5397993da6b48cad2c7", func := "platterhold/platterholdlaw4.DeltaSays", spec := "deltaSays", inPlace := ["internal/reflectlite.ValueOf", "(internal/reflectlite.Value).Type", "(internal/reflectlite.Value).IsNil", "internal/reflectlite.TypeOf", "(internal/reflectlite.Value).Elem", "(internal/reflectlite.Value).Set", "internal/abi.NoEscape"], unfollowed := true, recurses := true, named := ["errors.errorType"], apart := false, laid := [("errors.errorType", laid_errors_errorType)] }
def DeltaSaysSaid : Prop := deltaSaysRow.holds Tryd.pinned (OpenSpec.ofChange deltaSaysSpec)

/-- ITS FALSE NEIGHBOUR: 'it returns false'. Refute it at one input. -/
def deltaSaysWrong : ChangeSpec := { name := "deltaSays", fn := fun _ => fun
  | [d1, d2, d3, d4] => { results := [.lit (.bool false)], args := [d1, d2, d3, d4] }
  | _ => none }
def DeltaSaysWrongFalsely : Prop := deltaSaysRow.holds Tryd.pinned (OpenSpec.ofChange deltaSaysWrong)

/-- 'platterholdtop.TopPages': WHATEVER THE INPUT: true; the input reads as it did. -/
def topPagesSpec : ChangeSpec := { name := "topPages", fn := fun _ => fun
  | [d] => { results := [.lit (.bool true)], args := [d] }
  | _ => none }
def topPagesRow : OpenClaim := { program := "ytglcljeeigilnaadoor", sum := "d5f9f5ee6b26b7a7b3668a7d340465e5eaf949343683f5397993da6b48cad2c7", func := "platterhold/platterholdtop.TopPages", spec := "topPages", inPlace := ["internal/reflectlite.ValueOf", "(internal/reflectlite.Value).Type", "(internal/reflectlite.Value).IsNil", "internal/reflectlite.TypeOf", "(internal/reflectlite.Value).Elem", "(internal/reflectlite.Value).Set"], unfollowed := true, recurses := true, named := ["errors.errorType"], apart := false, laid := [("errors.errorType", laid_errors_errorType)] }
def TopPagesSaid : Prop := topPagesRow.holds Tryd.pinned (OpenSpec.ofChange topPagesSpec)

/-- ITS FALSE NEIGHBOUR: 'it returns false'. Refute it at one input. -/
def topPagesWrong : ChangeSpec := { name := "topPages", fn := fun _ => fun
  | [d] => { results := [.lit (.bool false)], args := [d] }
  | _ => none }
def TopPagesWrongFalsely : Prop := topPagesRow.holds Tryd.pinned (OpenSpec.ofChange topPagesWrong)

/- THE SECOND FORM. 'bulk': how many values and letters a reading holds, each counted each time it is reached (what is shared counts as often as it is met; a slice's spare places count too). A statement '..UptoSaid' is the law's where the arguments, and the package variables that the reading takes, are together of bulk at most 1048576: NARROWER than '..Said'. Prove '..Said' where nothing that the law and all that it calls make is longer than what came in: it says more and counts as full. Else prove '..UptoSaid'. A law counts once. -/
mutual
def uptoBulk {H : Type} : DataW H → Nat
  | .lit (.string bytes) => bytes.length + 1
  | .lit _ => 1
  | .nil => 1
  | .ptr d => uptoBulk d + 1
  | .slice elems spare => uptoBulkAll elems + uptoBulkAll spare + 1
  | .agg parts => uptoBulkAll parts + 1
  | .iface _ d => uptoBulk d + 1
  | .map entries => uptoBulkEntries entries + 1
  | .held _ => 1
def uptoBulkAll {H : Type} : List (DataW H) → Nat
  | [] => 0
  | d :: r => uptoBulk d + uptoBulkAll r
def uptoBulkEntries {H : Type} : List (Lit × DataW H) → Nat
  | [] => 0
  | x :: r => uptoBulkEntry x + uptoBulkEntries r
def uptoBulkEntry {H : Type} : Lit × DataW H → Nat
  | (.string bytes, d) => bytes.length + uptoBulk d + 1
  | (_, d) => uptoBulk d + 1
 end
def uptoSmall : (H : Type) → List (DataW H) → Bool := fun _ ds => decide (uptoBulkAll ds ≤ 1048576)
def OpenSpec.upto (s : _root_.Go.ChangeSpec) : _root_.Go.OpenSpec := { _root_.Go.OpenSpec.ofChange s with cond := some uptoSmall }

/-- 'platterholdlaw4.FtlPlays', WHERE WHAT IT READS IS OF BULK AT MOST 1048576: true; the input reads as it did. -/
def ftlPlaysUptoRow : OpenClaim := { program := "ytglcljeeigilnaadoor", sum := "d5f9f5ee6b26b7a7b3668a7d340465e5eaf949343683f5397993da6b48cad2c7", func := "platterhold/platterholdlaw4.FtlPlays", spec := "ftlPlays", inPlace := ["internal/reflectlite.ValueOf", "(internal/reflectlite.Value).Type", "(internal/reflectlite.Value).IsNil", "internal/reflectlite.TypeOf", "(internal/reflectlite.Value).Elem", "(internal/reflectlite.Value).Set"], unfollowed := true, recurses := true, named := ["errors.errorType"], apart := false, laid := [("errors.errorType", laid_errors_errorType)], narrowed := true }
def FtlPlaysUptoSaid : Prop := ftlPlaysUptoRow.holds Tryd.pinned (OpenSpec.upto ftlPlaysSpec)

/-- 'platterholdlaw4.DeltaSays', WHERE WHAT IT READS IS OF BULK AT MOST 1048576: true; the input reads as it did. -/
def deltaSaysUptoRow : OpenClaim := { program := "ytglcljeeigilnaadoor", sum := "d5f9f5ee6b26b7a7b3668a7d340465e5eaf949343683f5397993da6b48cad2c7", func := "platterhold/platterholdlaw4.DeltaSays", spec := "deltaSays", inPlace := ["internal/reflectlite.ValueOf", "(internal/reflectlite.Value).Type", "(internal/reflectlite.Value).IsNil", "internal/reflectlite.TypeOf", "(internal/reflectlite.Value).Elem", "(internal/reflectlite.Value).Set", "internal/abi.NoEscape"], unfollowed := true, recurses := true, named := ["errors.errorType"], apart := false, laid := [("errors.errorType", laid_errors_errorType)], narrowed := true }
def DeltaSaysUptoSaid : Prop := deltaSaysUptoRow.holds Tryd.pinned (OpenSpec.upto deltaSaysSpec)

/-- 'platterholdtop.TopPages', WHERE WHAT IT READS IS OF BULK AT MOST 1048576: true; the input reads as it did. -/
def topPagesUptoRow : OpenClaim := { program := "ytglcljeeigilnaadoor", sum := "d5f9f5ee6b26b7a7b3668a7d340465e5eaf949343683f5397993da6b48cad2c7", func := "platterhold/platterholdtop.TopPages", spec := "topPages", inPlace := ["internal/reflectlite.ValueOf", "(internal/reflectlite.Value).Type", "(internal/reflectlite.Value).IsNil", "internal/reflectlite.TypeOf", "(internal/reflectlite.Value).Elem", "(internal/reflectlite.Value).Set"], unfollowed := true, recurses := true, named := ["errors.errorType"], apart := false, laid := [("errors.errorType", laid_errors_errorType)], narrowed := true }
def TopPagesUptoSaid : Prop := topPagesUptoRow.holds Tryd.pinned (OpenSpec.upto topPagesSpec)

end Rows
end Go.Proofs.YtglcljeeigilnaaDoor
