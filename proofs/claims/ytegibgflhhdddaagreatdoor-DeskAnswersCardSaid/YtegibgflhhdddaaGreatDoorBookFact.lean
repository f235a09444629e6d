/- 'bookFact' says true. -/
import Derived.Test.YtegibgflhhdddaaGreatDoorBookTold
import Derived.Test.YtegibgflhhdddaaGreatDoorOpen
namespace Go.Proofs.YtegibgflhhdddaaGreatDoor
open Go.RowKit

/-- a row of integers lies beside a book -/
theorem int_far {w : World} {g y : Nat} {B : List Nat} {G : List (Nat × Nat)} {txt : List UInt8} {m : Nat} {cs : Array Value} {fr : Nat × Nat} (h : BookAt w g B G txt m) (hy : w.heap[y]? = some (.cells cs 3 fr)) : y < w.heap.size ∧ ¬ BkOwn w g y :=
  ⟨(Array.getElem?_eq_some_iff.1 hy).1, fun ho => by
    obtain ⟨cs', t', fr', hh, ht⟩ := h.own_cells ho
    rw [hy] at hh
    simp only [Option.some.injEq, Obj.cells.injEq] at hh
    obtain ⟨-, rfl, -⟩ := hh
    rcases ht with ht | ht | ht <;> exact absurd ht (by decide)⟩

def bk1 : Bk := Bk.new.write 1 2
def bk2 : Bk := bk1.done
theorem bk1_B : bk1.B = [0, 0, 0, 0, 0, 0, 0, 0] := by decide +kernel
theorem bk2_B : bk2.B = [0, 2, 0, 0, 0, 0, 0, 0] := by decide +kernel
theorem bk1_n : bk1.doneN = 1 ∧ bk1.doneE = 0 ∧ Bk.new.writeE 1 2 = 0 := by decide +kernel
theorem bk2_text : bk2.text.length > 6 ∧ bk2.text.take 6 = [119, 32, 49, 32, 50, 32] := by decide +kernel

end Go.Proofs.YtegibgflhhdddaaGreatDoor
