/-
  No cell of these rows narrows 'for every input' (looked for: loops, veiled, ifaces, maps, wideKeys, modest, calm, conditions, laid).
  DERIVED. THE GIVEN ROWS OF THIS SEAT. 5 by the template 'for every input the law returns true; each argument reads behind the call as it read before'; 0 by the template 'total and deterministic' (their statements: YtnkihdkcmhbhkaaTotals.lean).
  GIVEN WITH THE SEED: the statements are not yours to turn. If you find one false, say at which input.
  Laid BY PROGRAM, IN A SANDBOX (cutbox-rows.mjs): the forced cells as the released guide's own fill.sh prints them over the translation fcbfef8cd0db5a08… (all of the seat's roots in one cut). By AI agents, Wed Nov 11 2026. No macro, syntax, notation, axiom, sorry.
-/
import Derived.Test.YtnkihdkcmhbhkaaChecked
import GoSem.Claim
import GoSem.ClaimJoined
import GoSem.ClaimMapViews
import Derived.JoinedTies
import Derived.KernelRfl
namespace Go.Proofs.Ytnkihdkcmhbhkaa
/- THE CELL 'sum', in the pinned program and in every row, IS THE sha256 OF THE DUMP (.gsa) THAT YtnkihdkcmhbhkaaProg.lean LOADS. Nothing in Lean hashes anything: it is a label: what it is worth is what the hold of that sum in a sandbox is worth. -/
noncomputable def Try.pinned : Pinned := { name := "ytnkihdkcmhbhkaa", sum := "fcbfef8cd0db5a0895c4c91adaff99e09c9af4bece250f10b31af7c970f2d759", checked := Try.checked }
namespace Rows
def none {H : Type} : Left H := { results := [], args := [] }

/-- 'platterholdlaw4.ChunkLocal': WHATEVER THE INPUT: true; the input reads as it did. -/
def chunkLocalSpec : ChangeSpec := { name := "chunkLocal", fn := fun _ => fun
  | [d1, d2, d3] => { results := [.lit (.bool true)], args := [d1, d2, d3] }
  | _ => none }
def chunkLocalRow : OpenClaim := { program := "ytnkihdkcmhbhkaa", sum := "fcbfef8cd0db5a0895c4c91adaff99e09c9af4bece250f10b31af7c970f2d759", func := "platterhold/platterholdlaw4.ChunkLocal", spec := "chunkLocal", apart := false }
def ChunkLocalSaid : Prop := chunkLocalRow.holds Try.pinned (OpenSpec.ofChange chunkLocalSpec)

/-- ITS FALSE NEIGHBOUR: 'it returns false'. Refute it at one input. -/
def chunkLocalWrong : ChangeSpec := { name := "chunkLocal", fn := fun _ => fun
  | [d1, d2, d3] => { results := [.lit (.bool false)], args := [d1, d2, d3] }
  | _ => none }
def ChunkLocalWrongFalsely : Prop := chunkLocalRow.holds Try.pinned (OpenSpec.ofChange chunkLocalWrong)

/-- 'platterholdlaw4.ChunkBegins': WHATEVER THE INPUT: true; the input reads as it did. -/
def chunkBeginsSpec : ChangeSpec := { name := "chunkBegins", fn := fun _ => fun
  | [d1, d2] => { results := [.lit (.bool true)], args := [d1, d2] }
  | _ => none }
def chunkBeginsRow : OpenClaim := { program := "ytnkihdkcmhbhkaa", sum := "fcbfef8cd0db5a0895c4c91adaff99e09c9af4bece250f10b31af7c970f2d759", func := "platterhold/platterholdlaw4.ChunkBegins", spec := "chunkBegins", apart := false }
def ChunkBeginsSaid : Prop := chunkBeginsRow.holds Try.pinned (OpenSpec.ofChange chunkBeginsSpec)

/-- ITS FALSE NEIGHBOUR: 'it returns false'. Refute it at one input. -/
def chunkBeginsWrong : ChangeSpec := { name := "chunkBegins", fn := fun _ => fun
  | [d1, d2] => { results := [.lit (.bool false)], args := [d1, d2] }
  | _ => none }
def ChunkBeginsWrongFalsely : Prop := chunkBeginsRow.holds Try.pinned (OpenSpec.ofChange chunkBeginsWrong)

/-- 'platterholdlaw4.ChunkJoin': WHATEVER THE INPUT: true; the input reads as it did. -/
def chunkJoinSpec : ChangeSpec := { name := "chunkJoin", fn := fun _ => fun
  | [d] => { results := [.lit (.bool true)], args := [d] }
  | _ => none }
def chunkJoinRow : OpenClaim := { program := "ytnkihdkcmhbhkaa", sum := "fcbfef8cd0db5a0895c4c91adaff99e09c9af4bece250f10b31af7c970f2d759", func := "platterhold/platterholdlaw4.ChunkJoin", spec := "chunkJoin", apart := false }
def ChunkJoinSaid : Prop := chunkJoinRow.holds Try.pinned (OpenSpec.ofChange chunkJoinSpec)

/-- ITS FALSE NEIGHBOUR: 'it returns false'. Refute it at one input. -/
def chunkJoinWrong : ChangeSpec := { name := "chunkJoin", fn := fun _ => fun
  | [d] => { results := [.lit (.bool false)], args := [d] }
  | _ => none }
def ChunkJoinWrongFalsely : Prop := chunkJoinRow.holds Try.pinned (OpenSpec.ofChange chunkJoinWrong)

/-- 'platterholdlaw4.DedupOnce': WHATEVER THE INPUT: true; the input reads as it did. -/
def dedupOnceSpec : ChangeSpec := { name := "dedupOnce", fn := fun _ => fun
  | [d1, d2, d3] => { results := [.lit (.bool true)], args := [d1, d2, d3] }
  | _ => none }
def dedupOnceRow : OpenClaim := { program := "ytnkihdkcmhbhkaa", sum := "fcbfef8cd0db5a0895c4c91adaff99e09c9af4bece250f10b31af7c970f2d759", func := "platterhold/platterholdlaw4.DedupOnce", spec := "dedupOnce", apart := false }
def DedupOnceSaid : Prop := dedupOnceRow.holds Try.pinned (OpenSpec.ofChange dedupOnceSpec)

/-- ITS FALSE NEIGHBOUR: 'it returns false'. Refute it at one input. -/
def dedupOnceWrong : ChangeSpec := { name := "dedupOnce", fn := fun _ => fun
  | [d1, d2, d3] => { results := [.lit (.bool false)], args := [d1, d2, d3] }
  | _ => none }
def DedupOnceWrongFalsely : Prop := dedupOnceRow.holds Try.pinned (OpenSpec.ofChange dedupOnceWrong)

/-- 'platterholdtop.TopPieces': WHATEVER THE INPUT: true; the input reads as it did. -/
def topPiecesSpec : ChangeSpec := { name := "topPieces", fn := fun _ => fun
  | [d] => { results := [.lit (.bool true)], args := [d] }
  | _ => none }
def topPiecesRow : OpenClaim := { program := "ytnkihdkcmhbhkaa", sum := "fcbfef8cd0db5a0895c4c91adaff99e09c9af4bece250f10b31af7c970f2d759", func := "platterhold/platterholdtop.TopPieces", spec := "topPieces", apart := false }
def TopPiecesSaid : Prop := topPiecesRow.holds Try.pinned (OpenSpec.ofChange topPiecesSpec)

/-- ITS FALSE NEIGHBOUR: 'it returns false'. Refute it at one input. -/
def topPiecesWrong : ChangeSpec := { name := "topPieces", fn := fun _ => fun
  | [d] => { results := [.lit (.bool false)], args := [d] }
  | _ => none }
def TopPiecesWrongFalsely : Prop := topPiecesRow.holds Try.pinned (OpenSpec.ofChange topPiecesWrong)

/- THE SECOND FORM. 'bulk': how many values and letters a reading holds, each counted each time it is reached (what is shared counts as often as it is met; a slice's spare places count too). A statement '..UptoSaid' is the law's where the arguments, and the package variables that the reading takes, are together of bulk at most 1048576: NARROWER than '..Said'. Prove '..Said' where nothing that the law and all that it calls make is longer than what came in: it says more and counts as full. Else prove '..UptoSaid'. A law counts once. -/
mutual
def uptoBulk {H : Type} : DataW H → Nat
  | .lit (.string bytes) => bytes.length + 1
  | .lit _ => 1
  | .nil => 1
  | .ptr d => uptoBulk d + 1
  | .slice elems spare => uptoBulkAll elems + uptoBulkAll spare + 1
  | .agg parts => uptoBulkAll parts + 1
  | .iface _ d => uptoBulk d + 1
  | .map entries => uptoBulkEntries entries + 1
  | .held _ => 1
def uptoBulkAll {H : Type} : List (DataW H) → Nat
  | [] => 0
  | d :: r => uptoBulk d + uptoBulkAll r
def uptoBulkEntries {H : Type} : List (Lit × DataW H) → Nat
  | [] => 0
  | x :: r => uptoBulkEntry x + uptoBulkEntries r
def uptoBulkEntry {H : Type} : Lit × DataW H → Nat
  | (.string bytes, d) => bytes.length + uptoBulk d + 1
  | (_, d) => uptoBulk d + 1
 end
def uptoSmall : (H : Type) → List (DataW H) → Bool := fun _ ds => decide (uptoBulkAll ds ≤ 1048576)
def OpenSpec.upto (s : _root_.Go.ChangeSpec) : _root_.Go.OpenSpec := { _root_.Go.OpenSpec.ofChange s with cond := some uptoSmall }

/-- 'platterholdlaw4.ChunkLocal', WHERE WHAT IT READS IS OF BULK AT MOST 1048576: true; the input reads as it did. -/
def chunkLocalUptoRow : OpenClaim := { program := "ytnkihdkcmhbhkaa", sum := "fcbfef8cd0db5a0895c4c91adaff99e09c9af4bece250f10b31af7c970f2d759", func := "platterhold/platterholdlaw4.ChunkLocal", spec := "chunkLocal", apart := false, narrowed := true }
def ChunkLocalUptoSaid : Prop := chunkLocalUptoRow.holds Try.pinned (OpenSpec.upto chunkLocalSpec)

/-- 'platterholdlaw4.ChunkBegins', WHERE WHAT IT READS IS OF BULK AT MOST 1048576: true; the input reads as it did. -/
def chunkBeginsUptoRow : OpenClaim := { program := "ytnkihdkcmhbhkaa", sum := "fcbfef8cd0db5a0895c4c91adaff99e09c9af4bece250f10b31af7c970f2d759", func := "platterhold/platterholdlaw4.ChunkBegins", spec := "chunkBegins", apart := false, narrowed := true }
def ChunkBeginsUptoSaid : Prop := chunkBeginsUptoRow.holds Try.pinned (OpenSpec.upto chunkBeginsSpec)

/-- 'platterholdlaw4.ChunkJoin', WHERE WHAT IT READS IS OF BULK AT MOST 1048576: true; the input reads as it did. -/
def chunkJoinUptoRow : OpenClaim := { program := "ytnkihdkcmhbhkaa", sum := "fcbfef8cd0db5a0895c4c91adaff99e09c9af4bece250f10b31af7c970f2d759", func := "platterhold/platterholdlaw4.ChunkJoin", spec := "chunkJoin", apart := false, narrowed := true }
def ChunkJoinUptoSaid : Prop := chunkJoinUptoRow.holds Try.pinned (OpenSpec.upto chunkJoinSpec)

/-- 'platterholdlaw4.DedupOnce', WHERE WHAT IT READS IS OF BULK AT MOST 1048576: true; the input reads as it did. -/
def dedupOnceUptoRow : OpenClaim := { program := "ytnkihdkcmhbhkaa", sum := "fcbfef8cd0db5a0895c4c91adaff99e09c9af4bece250f10b31af7c970f2d759", func := "platterhold/platterholdlaw4.DedupOnce", spec := "dedupOnce", apart := false, narrowed := true }
def DedupOnceUptoSaid : Prop := dedupOnceUptoRow.holds Try.pinned (OpenSpec.upto dedupOnceSpec)

/-- 'platterholdtop.TopPieces', WHERE WHAT IT READS IS OF BULK AT MOST 1048576: true; the input reads as it did. -/
def topPiecesUptoRow : OpenClaim := { program := "ytnkihdkcmhbhkaa", sum := "fcbfef8cd0db5a0895c4c91adaff99e09c9af4bece250f10b31af7c970f2d759", func := "platterhold/platterholdtop.TopPieces", spec := "topPieces", apart := false, narrowed := true }
def TopPiecesUptoSaid : Prop := topPiecesUptoRow.holds Try.pinned (OpenSpec.upto topPiecesSpec)

end Rows
end Go.Proofs.Ytnkihdkcmhbhkaa
