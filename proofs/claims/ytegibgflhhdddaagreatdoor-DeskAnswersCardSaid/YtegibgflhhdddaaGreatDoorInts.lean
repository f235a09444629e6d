/- The walks of the small helpers: whether two lists are the same; whether a list has a number. -/
import Derived.Test.YtegibgflhhdddaaGreatDoorProg
import Derived.Test.YtegibgflhhdddaaGreatDoorBase
namespace Go.Proofs.YtegibgflhhdddaaGreatDoor
open Go.RowKit

def Same (xs ys : List Int) (k : Nat) : Prop := ∀ j, j < k → xs[j]? = ys[j]?

theorem Same.step {xs ys : List Int} {k : Nat} {x : Int} (h : Same xs ys k) (hx : xs[k]? = some x) (hy : ys[k]? = some x) : Same xs ys (k + 1) := by
  intro j hj
  by_cases e : j = k
  · subst e; rw [hx, hy]
  · exact h j (by omega)

theorem Same.all {xs ys : List Int} {k : Nat} (h : Same xs ys k) (hk : xs.length ≤ k) (hl : xs.length = ys.length) : xs = ys := by
  apply List.ext_getElem? 
  intro j
  by_cases hj : j < k
  · exact h j hj
  · rw [List.getElem?_eq_none (by omega), List.getElem?_eq_none (by omega)]

theorem ret_bool {a b : Bool} (h : a = b) : Ending.returned (.bool a) = .returned (.bool b) := by rw [h]

end Go.Proofs.YtegibgflhhdddaaGreatDoor
