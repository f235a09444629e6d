/-
  No cell of these rows narrows 'for every input' (looked for: loops, veiled, ifaces, maps, wideKeys, modest, calm, conditions, laid).
  DERIVED. THE GIVEN ROWS OF THIS SEAT. 2 by the template 'for every input the law returns true; each argument reads behind the call as it read before'; 0 by the template 'total and deterministic' (their statements: YtgiehdlkgjmojaaTotals.lean).
  GIVEN WITH THE SEED: the statements are not yours to turn. If you find one false, say at which input.
  Laid BY PROGRAM, IN A SANDBOX (cutbox-rows.mjs): the forced cells as the released guide's own fill.sh prints them over the translation 68d76df890bc06ce… (all of the seat's roots in one cut). By AI agents, Wed Nov 11 2026. No macro, syntax, notation, axiom, sorry.
-/
import Derived.Test.YtgiehdlkgjmojaaChecked
import GoSem.Claim
import GoSem.ClaimJoined
import GoSem.ClaimMapViews
import Derived.JoinedTies
import Derived.KernelRfl
namespace Go.Proofs.Ytgiehdlkgjmojaa
/- THE CELL 'sum', in the pinned program and in every row, IS THE sha256 OF THE DUMP (.gsa) THAT YtgiehdlkgjmojaaProg.lean LOADS. Nothing in Lean hashes anything: it is a label: what it is worth is what the hold of that sum in a sandbox is worth. -/
noncomputable def Try.pinned : Pinned := { name := "ytgiehdlkgjmojaa", sum := "68d76df890bc06ce458d69285293e412903889907f20709dc74072e58cf5f50f", checked := Try.checked }
namespace Rows
def none {H : Type} : Left H := { results := [], args := [] }

/-- 'platterholdlaw4.WearFills': WHATEVER THE INPUT: true; the input reads as it did. -/
def wearFillsSpec : ChangeSpec := { name := "wearFills", fn := fun _ => fun
  | [d1, d2] => { results := [.lit (.bool true)], args := [d1, d2] }
  | _ => none }
def wearFillsRow : OpenClaim := { program := "ytgiehdlkgjmojaa", sum := "68d76df890bc06ce458d69285293e412903889907f20709dc74072e58cf5f50f", func := "platterhold/platterholdlaw4.WearFills", spec := "wearFills", apart := false }
def WearFillsSaid : Prop := wearFillsRow.holds Try.pinned (OpenSpec.ofChange wearFillsSpec)

/-- ITS FALSE NEIGHBOUR: 'it returns false'. Refute it at one input. -/
def wearFillsWrong : ChangeSpec := { name := "wearFills", fn := fun _ => fun
  | [d1, d2] => { results := [.lit (.bool false)], args := [d1, d2] }
  | _ => none }
def WearFillsWrongFalsely : Prop := wearFillsRow.holds Try.pinned (OpenSpec.ofChange wearFillsWrong)

/-- 'platterholdlaw4.WearEven': WHATEVER THE INPUT: true; the input reads as it did. -/
def wearEvenSpec : ChangeSpec := { name := "wearEven", fn := fun _ => fun
  | [d1, d2] => { results := [.lit (.bool true)], args := [d1, d2] }
  | _ => none }
def wearEvenRow : OpenClaim := { program := "ytgiehdlkgjmojaa", sum := "68d76df890bc06ce458d69285293e412903889907f20709dc74072e58cf5f50f", func := "platterhold/platterholdlaw4.WearEven", spec := "wearEven", apart := false }
def WearEvenSaid : Prop := wearEvenRow.holds Try.pinned (OpenSpec.ofChange wearEvenSpec)

/-- ITS FALSE NEIGHBOUR: 'it returns false'. Refute it at one input. -/
def wearEvenWrong : ChangeSpec := { name := "wearEven", fn := fun _ => fun
  | [d1, d2] => { results := [.lit (.bool false)], args := [d1, d2] }
  | _ => none }
def WearEvenWrongFalsely : Prop := wearEvenRow.holds Try.pinned (OpenSpec.ofChange wearEvenWrong)

/- THE SECOND FORM. 'bulk': how many values and letters a reading holds, each counted each time it is reached (what is shared counts as often as it is met; a slice's spare places count too). A statement '..UptoSaid' is the law's where the arguments, and the package variables that the reading takes, are together of bulk at most 1048576: NARROWER than '..Said'. Prove '..Said' where nothing that the law and all that it calls make is longer than what came in: it says more and counts as full. Else prove '..UptoSaid'. A law counts once. -/
mutual
def uptoBulk {H : Type} : DataW H → Nat
  | .lit (.string bytes) => bytes.length + 1
  | .lit _ => 1
  | .nil => 1
  | .ptr d => uptoBulk d + 1
  | .slice elems spare => uptoBulkAll elems + uptoBulkAll spare + 1
  | .agg parts => uptoBulkAll parts + 1
  | .iface _ d => uptoBulk d + 1
  | .map entries => uptoBulkEntries entries + 1
  | .held _ => 1
def uptoBulkAll {H : Type} : List (DataW H) → Nat
  | [] => 0
  | d :: r => uptoBulk d + uptoBulkAll r
def uptoBulkEntries {H : Type} : List (Lit × DataW H) → Nat
  | [] => 0
  | x :: r => uptoBulkEntry x + uptoBulkEntries r
def uptoBulkEntry {H : Type} : Lit × DataW H → Nat
  | (.string bytes, d) => bytes.length + uptoBulk d + 1
  | (_, d) => uptoBulk d + 1
 end
def uptoSmall : (H : Type) → List (DataW H) → Bool := fun _ ds => decide (uptoBulkAll ds ≤ 1048576)
def OpenSpec.upto (s : _root_.Go.ChangeSpec) : _root_.Go.OpenSpec := { _root_.Go.OpenSpec.ofChange s with cond := some uptoSmall }

/-- 'platterholdlaw4.WearFills', WHERE WHAT IT READS IS OF BULK AT MOST 1048576: true; the input reads as it did. -/
def wearFillsUptoRow : OpenClaim := { program := "ytgiehdlkgjmojaa", sum := "68d76df890bc06ce458d69285293e412903889907f20709dc74072e58cf5f50f", func := "platterhold/platterholdlaw4.WearFills", spec := "wearFills", apart := false, narrowed := true }
def WearFillsUptoSaid : Prop := wearFillsUptoRow.holds Try.pinned (OpenSpec.upto wearFillsSpec)

/-- 'platterholdlaw4.WearEven', WHERE WHAT IT READS IS OF BULK AT MOST 1048576: true; the input reads as it did. -/
def wearEvenUptoRow : OpenClaim := { program := "ytgiehdlkgjmojaa", sum := "68d76df890bc06ce458d69285293e412903889907f20709dc74072e58cf5f50f", func := "platterhold/platterholdlaw4.WearEven", spec := "wearEven", apart := false, narrowed := true }
def WearEvenUptoSaid : Prop := wearEvenUptoRow.holds Try.pinned (OpenSpec.upto wearEvenSpec)

end Rows
end Go.Proofs.Ytgiehdlkgjmojaa
