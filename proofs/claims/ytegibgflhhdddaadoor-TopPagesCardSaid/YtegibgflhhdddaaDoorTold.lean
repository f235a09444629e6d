/- plain.Told and platterholdsame.Error by their contracts: of nil, of an Errno. -/
import Derived.Test.YtegibgflhhdddaaDoorAs
import Derived.Test.YtegibgflhhdddaaDoorBase
namespace Go.Proofs.YtegibgflhhdddaaDoor
open Go.RowKit

/-- the cell of errors.errorType holds the handle of the type error -/
def Handled (w : World) : Prop := w.cell? ⟨1, 0, none⟩ = some (.iface 111 (.agg #[.pointer (some ⟨2, 33, none⟩)]))

theorem Handled.lt {w : World} (h : Handled w) : 1 < w.heap.size := by
  rcases Nat.lt_or_ge 1 w.heap.size with h' | h'
  · exact h'
  · simp [Handled, World.cell?, Array.getElem?_eq_none h'] at h
theorem Handled.below {w w' : World} (h : Handled w) (hb : Below w.heap.size w w') : Handled w' := by
  unfold Handled
  rw [hb.cell (p := ⟨1, 0, none⟩) h.lt]
  exact h

/-- the error value of a number -/
def errV (k : Int) : Value := if k = 0 then .nilIface else .iface 64 (.int .i64 k)

theorem told_nil (w : World) : Calls Tryd.prog 37 #[.nilIface] w fun e w' => e = .returned (.int .i64 0) ∧ w = w' := by
  go_enter Tryd.func37, Tryd.ntmps37
  go_wp2
  go_ret
  exact ⟨rfl, rfl⟩

theorem told_is (k : Int) (w : World) (hg : Handled w) : Calls Tryd.prog 37 #[.iface 64 (.int .i64 k)] w fun e w' => e = .returned (.int .i64 k) ∧ Below w.heap.size w w' := by
  have hgA := hg.below ((Below.refl _ w).alloc (Nat.le_refl _) (.cells #[.int .i64 0] 64))
  unfold Handled at hgA
  have HG := Lib.hid hgA
  clear hgA
  go_enter Tryd.func37, Tryd.ntmps37
  go_wp2_with fail
  refine (as_hit _ _ (.int .i64 0) _ HG.out (by simp) (by simp)).mono ?_
  rintro e w' ⟨rfl, rfl⟩
  go_wp2_with fail
  go_ret
  refine ⟨rfl, ?_⟩
  repeat (first | exact Below.refl _ _ | refine Below.alloc ?_ (by simp <;> omega) _ | refine Below.setCell ?_ (by simp <;> omega) _)

theorem error_nil (m : Int) (w : World) : Calls Tryd.prog 10 #[.nilIface, .int .i64 m] w fun e w' => e = .returned (.bool ((0 : Int) == m)) ∧ w = w' := by
  go_enter Tryd.func10, Tryd.ntmps10
  go_wp2_with fail
  refine (told_nil _).mono ?_
  rintro e w' ⟨rfl, rfl⟩
  go_wp2_with fail
  go_ret
  exact ⟨rfl, rfl⟩

theorem error_is (k m : Int) (w : World) (hg : Handled w) : Calls Tryd.prog 10 #[.iface 64 (.int .i64 k), .int .i64 m] w fun e w' => e = .returned (.bool (k == m)) ∧ Below w.heap.size w w' := by
  go_enter Tryd.func10, Tryd.ntmps10
  go_wp2_with fail
  refine (told_is _ _ hg).mono ?_
  rintro e w' ⟨rfl, hb⟩
  have HB := Lib.hid hb
  clear hb
  go_wp2_with fail
  go_ret
  exact ⟨rfl, HB.out⟩

/-- one contract for both -/
theorem error_any (k m : Int) (w : World) (hg : Handled w) : Calls Tryd.prog 10 #[errV k, .int .i64 m] w fun e w' => e = .returned (.bool (k == m)) ∧ Below w.heap.size w w' := by
  unfold errV
  split
  · subst_vars
    exact (error_nil m w).mono fun e w' ⟨h, h'⟩ => ⟨h, h' ▸ Below.refl _ _⟩
  · exact error_is k m w hg

theorem error_same (k : Int) (w : World) (hg : Handled w) : Calls Tryd.prog 10 #[.iface 64 (.int .i64 k), .int .i64 k] w fun e w' => e = .returned (.bool true) ∧ Below w.heap.size w w' :=
  (error_is k k w hg).mono fun e w' ⟨h, h'⟩ => ⟨by rw [h]; simp, h'⟩
theorem error_none (w : World) : Calls Tryd.prog 10 #[.nilIface, .int .i64 0] w fun e w' => e = .returned (.bool true) ∧ w = w' :=
  (error_nil 0 w).mono fun e w' ⟨h, h'⟩ => ⟨by rw [h]; rfl, h'⟩

end Go.Proofs.YtegibgflhhdddaaDoor
