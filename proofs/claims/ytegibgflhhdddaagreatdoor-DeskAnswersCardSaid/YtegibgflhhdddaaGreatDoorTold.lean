/- plain.Told and platterholdsame.Error by their contracts: of nil, of an Errno. -/
import Derived.Test.YtegibgflhhdddaaGreatDoorAs
import Derived.Test.YtegibgflhhdddaaGreatDoorBase
namespace Go.Proofs.YtegibgflhhdddaaGreatDoor
open Go.RowKit

/-- the cell of errors.errorType holds the handle of the type error -/
def Handled (w : World) : Prop := w.cell? ⟨1, 0, none⟩ = some (.iface 126 (.agg #[.pointer (some ⟨9, 36, none⟩)]))

theorem Handled.lt {w : World} (h : Handled w) : 1 < w.heap.size := by
  rcases Nat.lt_or_ge 1 w.heap.size with h' | h'
  · exact h'
  · simp [Handled, World.cell?, Array.getElem?_eq_none h'] at h
theorem Handled.below {w w' : World} (h : Handled w) (hb : Below w.heap.size w w') : Handled w' := by
  unfold Handled
  rw [hb.cell (p := ⟨1, 0, none⟩) h.lt]
  exact h

/-- the error value of a number -/
def errV (k : Int) : Value := if k = 0 then .nilIface else .iface 80 (.int .i64 k)

end Go.Proofs.YtegibgflhhdddaaGreatDoor
