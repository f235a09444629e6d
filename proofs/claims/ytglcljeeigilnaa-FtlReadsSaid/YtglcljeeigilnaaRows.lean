/-
  No cell of these rows narrows 'for every input' (looked for: loops, veiled, ifaces, maps, wideKeys, modest, calm, conditions, laid).
  DERIVED. THE GIVEN ROWS OF THIS SEAT. 7 by the template 'for every input the law returns true; each argument reads behind the call as it read before'; 0 by the template 'total and deterministic' (their statements: YtglcljeeigilnaaTotals.lean).
  GIVEN WITH THE SEED: the statements are not yours to turn. If you find one false, say at which input.
  Laid BY PROGRAM, IN A SANDBOX (cutbox-rows.mjs): the forced cells as the released guide's own fill.sh prints them over the translation 09bb540c7aa49dbe… (all of the seat's roots in one cut). By AI agents, Wed Nov 11 2026. No macro, syntax, notation, axiom, sorry.
-/
import Derived.Test.YtglcljeeigilnaaChecked
import GoSem.Claim
import GoSem.ClaimJoined
import GoSem.ClaimMapViews
import Derived.JoinedTies
import Derived.KernelRfl
namespace Go.Proofs.Ytglcljeeigilnaa
/- THE CELL 'sum', in the pinned program and in every row, IS THE sha256 OF THE DUMP (.gsa) THAT YtglcljeeigilnaaProg.lean LOADS. Nothing in Lean hashes anything: it is a label: what it is worth is what the hold of that sum in a sandbox is worth. -/
noncomputable def Try.pinned : Pinned := { name := "ytglcljeeigilnaa", sum := "09bb540c7aa49dbe4d3b02e07c6d001e50f319bb3846a1c6ede9ca125b5336b9", checked := Try.checked }
namespace Rows
def none {H : Type} : Left H := { results := [], args := [] }

/-- 'platterholdlaw4.DeltaSame': WHATEVER THE INPUT: true; the input reads as it did. -/
def deltaSameSpec : ChangeSpec := { name := "deltaSame", fn := fun _ => fun
  | [d1, d2] => { results := [.lit (.bool true)], args := [d1, d2] }
  | _ => none }
def deltaSameRow : OpenClaim := { program := "ytglcljeeigilnaa", sum := "09bb540c7aa49dbe4d3b02e07c6d001e50f319bb3846a1c6ede9ca125b5336b9", func := "platterhold/platterholdlaw4.DeltaSame", spec := "deltaSame", apart := false }
def DeltaSameSaid : Prop := deltaSameRow.holds Try.pinned (OpenSpec.ofChange deltaSameSpec)

/-- ITS FALSE NEIGHBOUR: 'it returns false'. Refute it at one input. -/
def deltaSameWrong : ChangeSpec := { name := "deltaSame", fn := fun _ => fun
  | [d1, d2] => { results := [.lit (.bool false)], args := [d1, d2] }
  | _ => none }
def DeltaSameWrongFalsely : Prop := deltaSameRow.holds Try.pinned (OpenSpec.ofChange deltaSameWrong)

/-- 'platterholdlaw4.DeltaBlocks': WHATEVER THE INPUT: true; the input reads as it did. -/
def deltaBlocksSpec : ChangeSpec := { name := "deltaBlocks", fn := fun _ => fun
  | [d1, d2, d3] => { results := [.lit (.bool true)], args := [d1, d2, d3] }
  | _ => none }
def deltaBlocksRow : OpenClaim := { program := "ytglcljeeigilnaa", sum := "09bb540c7aa49dbe4d3b02e07c6d001e50f319bb3846a1c6ede9ca125b5336b9", func := "platterhold/platterholdlaw4.DeltaBlocks", spec := "deltaBlocks", apart := false }
def DeltaBlocksSaid : Prop := deltaBlocksRow.holds Try.pinned (OpenSpec.ofChange deltaBlocksSpec)

/-- ITS FALSE NEIGHBOUR: 'it returns false'. Refute it at one input. -/
def deltaBlocksWrong : ChangeSpec := { name := "deltaBlocks", fn := fun _ => fun
  | [d1, d2, d3] => { results := [.lit (.bool false)], args := [d1, d2, d3] }
  | _ => none }
def DeltaBlocksWrongFalsely : Prop := deltaBlocksRow.holds Try.pinned (OpenSpec.ofChange deltaBlocksWrong)

/-- 'platterholdlaw4.FtlReads': WHATEVER THE INPUT: true; the input reads as it did. -/
def ftlReadsSpec : ChangeSpec := { name := "ftlReads", fn := fun _ => fun
  | [d1, d2, d3] => { results := [.lit (.bool true)], args := [d1, d2, d3] }
  | _ => none }
def ftlReadsRow : OpenClaim := { program := "ytglcljeeigilnaa", sum := "09bb540c7aa49dbe4d3b02e07c6d001e50f319bb3846a1c6ede9ca125b5336b9", func := "platterhold/platterholdlaw4.FtlReads", spec := "ftlReads", unfollowed := true, recurses := true, apart := false }
def FtlReadsSaid : Prop := ftlReadsRow.holds Try.pinned (OpenSpec.ofChange ftlReadsSpec)

/-- ITS FALSE NEIGHBOUR: 'it returns false'. Refute it at one input. -/
def ftlReadsWrong : ChangeSpec := { name := "ftlReads", fn := fun _ => fun
  | [d1, d2, d3] => { results := [.lit (.bool false)], args := [d1, d2, d3] }
  | _ => none }
def FtlReadsWrongFalsely : Prop := ftlReadsRow.holds Try.pinned (OpenSpec.ofChange ftlReadsWrong)

/-- 'platterholdlaw4.FtlErased': WHATEVER THE INPUT: true; the input reads as it did. -/
def ftlErasedSpec : ChangeSpec := { name := "ftlErased", fn := fun _ => fun
  | [d] => { results := [.lit (.bool true)], args := [d] }
  | _ => none }
def ftlErasedRow : OpenClaim := { program := "ytglcljeeigilnaa", sum := "09bb540c7aa49dbe4d3b02e07c6d001e50f319bb3846a1c6ede9ca125b5336b9", func := "platterhold/platterholdlaw4.FtlErased", spec := "ftlErased", unfollowed := true, recurses := true, apart := false }
def FtlErasedSaid : Prop := ftlErasedRow.holds Try.pinned (OpenSpec.ofChange ftlErasedSpec)

/-- ITS FALSE NEIGHBOUR: 'it returns false'. Refute it at one input. -/
def ftlErasedWrong : ChangeSpec := { name := "ftlErased", fn := fun _ => fun
  | [d] => { results := [.lit (.bool false)], args := [d] }
  | _ => none }
def FtlErasedWrongFalsely : Prop := ftlErasedRow.holds Try.pinned (OpenSpec.ofChange ftlErasedWrong)

/-- 'platterholdlaw4.FtlLive': WHATEVER THE INPUT: true; the input reads as it did. -/
def ftlLiveSpec : ChangeSpec := { name := "ftlLive", fn := fun _ => fun
  | [d] => { results := [.lit (.bool true)], args := [d] }
  | _ => none }
def ftlLiveRow : OpenClaim := { program := "ytglcljeeigilnaa", sum := "09bb540c7aa49dbe4d3b02e07c6d001e50f319bb3846a1c6ede9ca125b5336b9", func := "platterhold/platterholdlaw4.FtlLive", spec := "ftlLive", unfollowed := true, recurses := true, apart := false }
def FtlLiveSaid : Prop := ftlLiveRow.holds Try.pinned (OpenSpec.ofChange ftlLiveSpec)

/-- ITS FALSE NEIGHBOUR: 'it returns false'. Refute it at one input. -/
def ftlLiveWrong : ChangeSpec := { name := "ftlLive", fn := fun _ => fun
  | [d] => { results := [.lit (.bool false)], args := [d] }
  | _ => none }
def FtlLiveWrongFalsely : Prop := ftlLiveRow.holds Try.pinned (OpenSpec.ofChange ftlLiveWrong)

/-- 'platterholdlaw4.DeltaBack': WHATEVER THE INPUT: true; the input reads as it did. -/
def deltaBackSpec : ChangeSpec := { name := "deltaBack", fn := fun _ => fun
  | [d1, d2, d3] => { results := [.lit (.bool true)], args := [d1, d2, d3] }
  | _ => none }
def deltaBackRow : OpenClaim := { program := "ytglcljeeigilnaa", sum := "09bb540c7aa49dbe4d3b02e07c6d001e50f319bb3846a1c6ede9ca125b5336b9", func := "platterhold/platterholdlaw4.DeltaBack", spec := "deltaBack", inPlace := ["internal/abi.NoEscape"], apart := false }
def DeltaBackSaid : Prop := deltaBackRow.holds Try.pinned (OpenSpec.ofChange deltaBackSpec)

/-- ITS FALSE NEIGHBOUR: 'it returns false'. Refute it at one input. -/
def deltaBackWrong : ChangeSpec := { name := "deltaBack", fn := fun _ => fun
  | [d1, d2, d3] => { results := [.lit (.bool false)], args := [d1, d2, d3] }
  | _ => none }
def DeltaBackWrongFalsely : Prop := deltaBackRow.holds Try.pinned (OpenSpec.ofChange deltaBackWrong)

/-- 'platterholdtop.TopDelta': WHATEVER THE INPUT: true; the input reads as it did. -/
def topDeltaSpec : ChangeSpec := { name := "topDelta", fn := fun _ => fun
  | [d1, d2, d3, d4] => { results := [.lit (.bool true)], args := [d1, d2, d3, d4] }
  | _ => none }
def topDeltaRow : OpenClaim := { program := "ytglcljeeigilnaa", sum := "09bb540c7aa49dbe4d3b02e07c6d001e50f319bb3846a1c6ede9ca125b5336b9", func := "platterhold/platterholdtop.TopDelta", spec := "topDelta", inPlace := ["internal/abi.NoEscape"], apart := false }
def TopDeltaSaid : Prop := topDeltaRow.holds Try.pinned (OpenSpec.ofChange topDeltaSpec)

/-- ITS FALSE NEIGHBOUR: 'it returns false'. Refute it at one input. -/
def topDeltaWrong : ChangeSpec := { name := "topDelta", fn := fun _ => fun
  | [d1, d2, d3, d4] => { results := [.lit (.bool false)], args := [d1, d2, d3, d4] }
  | _ => none }
def TopDeltaWrongFalsely : Prop := topDeltaRow.holds Try.pinned (OpenSpec.ofChange topDeltaWrong)

/- THE SECOND FORM. 'bulk': how many values and letters a reading holds, each counted each time it is reached (what is shared counts as often as it is met; a slice's spare places count too). A statement '..UptoSaid' is the law's where the arguments, and the package variables that the reading takes, are together of bulk at most 1048576: NARROWER than '..Said'. Prove '..Said' where nothing that the law and all that it calls make is longer than what came in: it says more and counts as full. Else prove '..UptoSaid'. A law counts once. -/
mutual
def uptoBulk {H : Type} : DataW H → Nat
  | .lit (.string bytes) => bytes.length + 1
  | .lit _ => 1
  | .nil => 1
  | .ptr d => uptoBulk d + 1
  | .slice elems spare => uptoBulkAll elems + uptoBulkAll spare + 1
  | .agg parts => uptoBulkAll parts + 1
  | .iface _ d => uptoBulk d + 1
  | .map entries => uptoBulkEntries entries + 1
  | .held _ => 1
def uptoBulkAll {H : Type} : List (DataW H) → Nat
  | [] => 0
  | d :: r => uptoBulk d + uptoBulkAll r
def uptoBulkEntries {H : Type} : List (Lit × DataW H) → Nat
  | [] => 0
  | x :: r => uptoBulkEntry x + uptoBulkEntries r
def uptoBulkEntry {H : Type} : Lit × DataW H → Nat
  | (.string bytes, d) => bytes.length + uptoBulk d + 1
  | (_, d) => uptoBulk d + 1
 end
def uptoSmall : (H : Type) → List (DataW H) → Bool := fun _ ds => decide (uptoBulkAll ds ≤ 1048576)
def OpenSpec.upto (s : _root_.Go.ChangeSpec) : _root_.Go.OpenSpec := { _root_.Go.OpenSpec.ofChange s with cond := some uptoSmall }

/-- 'platterholdlaw4.DeltaSame', WHERE WHAT IT READS IS OF BULK AT MOST 1048576: true; the input reads as it did. -/
def deltaSameUptoRow : OpenClaim := { program := "ytglcljeeigilnaa", sum := "09bb540c7aa49dbe4d3b02e07c6d001e50f319bb3846a1c6ede9ca125b5336b9", func := "platterhold/platterholdlaw4.DeltaSame", spec := "deltaSame", apart := false, narrowed := true }
def DeltaSameUptoSaid : Prop := deltaSameUptoRow.holds Try.pinned (OpenSpec.upto deltaSameSpec)

/-- 'platterholdlaw4.DeltaBlocks', WHERE WHAT IT READS IS OF BULK AT MOST 1048576: true; the input reads as it did. -/
def deltaBlocksUptoRow : OpenClaim := { program := "ytglcljeeigilnaa", sum := "09bb540c7aa49dbe4d3b02e07c6d001e50f319bb3846a1c6ede9ca125b5336b9", func := "platterhold/platterholdlaw4.DeltaBlocks", spec := "deltaBlocks", apart := false, narrowed := true }
def DeltaBlocksUptoSaid : Prop := deltaBlocksUptoRow.holds Try.pinned (OpenSpec.upto deltaBlocksSpec)

/-- 'platterholdlaw4.FtlReads', WHERE WHAT IT READS IS OF BULK AT MOST 1048576: true; the input reads as it did. -/
def ftlReadsUptoRow : OpenClaim := { program := "ytglcljeeigilnaa", sum := "09bb540c7aa49dbe4d3b02e07c6d001e50f319bb3846a1c6ede9ca125b5336b9", func := "platterhold/platterholdlaw4.FtlReads", spec := "ftlReads", unfollowed := true, recurses := true, apart := false, narrowed := true }
def FtlReadsUptoSaid : Prop := ftlReadsUptoRow.holds Try.pinned (OpenSpec.upto ftlReadsSpec)

/-- 'platterholdlaw4.FtlErased', WHERE WHAT IT READS IS OF BULK AT MOST 1048576: true; the input reads as it did. -/
def ftlErasedUptoRow : OpenClaim := { program := "ytglcljeeigilnaa", sum := "09bb540c7aa49dbe4d3b02e07c6d001e50f319bb3846a1c6ede9ca125b5336b9", func := "platterhold/platterholdlaw4.FtlErased", spec := "ftlErased", unfollowed := true, recurses := true, apart := false, narrowed := true }
def FtlErasedUptoSaid : Prop := ftlErasedUptoRow.holds Try.pinned (OpenSpec.upto ftlErasedSpec)

/-- 'platterholdlaw4.FtlLive', WHERE WHAT IT READS IS OF BULK AT MOST 1048576: true; the input reads as it did. -/
def ftlLiveUptoRow : OpenClaim := { program := "ytglcljeeigilnaa", sum := "09bb540c7aa49dbe4d3b02e07c6d001e50f319bb3846a1c6ede9ca125b5336b9", func := "platterhold/platterholdlaw4.FtlLive", spec := "ftlLive", unfollowed := true, recurses := true, apart := false, narrowed := true }
def FtlLiveUptoSaid : Prop := ftlLiveUptoRow.holds Try.pinned (OpenSpec.upto ftlLiveSpec)

/-- 'platterholdlaw4.DeltaBack', WHERE WHAT IT READS IS OF BULK AT MOST 1048576: true; the input reads as it did. -/
def deltaBackUptoRow : OpenClaim := { program := "ytglcljeeigilnaa", sum := "09bb540c7aa49dbe4d3b02e07c6d001e50f319bb3846a1c6ede9ca125b5336b9", func := "platterhold/platterholdlaw4.DeltaBack", spec := "deltaBack", inPlace := ["internal/abi.NoEscape"], apart := false, narrowed := true }
def DeltaBackUptoSaid : Prop := deltaBackUptoRow.holds Try.pinned (OpenSpec.upto deltaBackSpec)

/-- 'platterholdtop.TopDelta', WHERE WHAT IT READS IS OF BULK AT MOST 1048576: true; the input reads as it did. -/
def topDeltaUptoRow : OpenClaim := { program := "ytglcljeeigilnaa", sum := "09bb540c7aa49dbe4d3b02e07c6d001e50f319bb3846a1c6ede9ca125b5336b9", func := "platterhold/platterholdtop.TopDelta", spec := "topDelta", inPlace := ["internal/abi.NoEscape"], apart := false, narrowed := true }
def TopDeltaUptoSaid : Prop := topDeltaUptoRow.holds Try.pinned (OpenSpec.upto topDeltaSpec)

end Rows
end Go.Proofs.Ytglcljeeigilnaa
