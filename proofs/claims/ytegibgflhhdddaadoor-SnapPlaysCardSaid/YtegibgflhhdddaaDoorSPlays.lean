/- The volume and the reference's planes in one world. -/
import Derived.Test.YtegibgflhhdddaaDoorPlRef3
import Derived.Test.YtegibgflhhdddaaDoorTold
import Derived.Test.YtegibgflhhdddaaDoorInts
import Derived.Deep.AppendLies
namespace Go.Proofs.YtegibgflhhdddaaDoor
open Go.RowKit

theorem VolIs.grown {w w' : World} {g gx : Nat} {s : Vol} (h : VolIs w g s) (hg : w.grownBy w' (some gx)) (hne : g ≠ gx) : VolIs w' g s := by
  have hn : some g ≠ some gx := by simpa using hne
  exact ⟨h.ok, Nat.lt_of_lt_of_le h.lt hg.size, by rw [hg.cell_far ⟨g, _, none⟩ h.lt hn]; exact h.now, fun k hk => by rw [hg.cell_far ⟨g, _, none⟩ h.lt hn]; exact h.p k hk, fun k hk => by rw [hg.cell_far ⟨g, _, none⟩ h.lt hn]; exact h.b k hk, fun o => by rw [hg.frozen_far ⟨g, o, none⟩ h.lt hn]; exact h.free o⟩

/-- the volume s, and the planes of t -/
structure PS (W wr : World) (g gx : Nat) (s t : Vol) : Prop where
  vol : VolIs wr g s
  box : ∃ v1 v2, wr.heap[gx]? = some (.cells #[v1, v2] 46 (0, 0)) ∧ IV (g + 1) wr v1 (rowOf t.now) ∧ SR (g + 1) wr v2 t
  lo : W.heap.size ≤ g ∧ g < gx
  below : Below W.heap.size W wr
theorem PS.later {W w w' : World} {g gx : Nat} {s t : Vol} (h : PS W w g gx s t) (hb : Below w.heap.size w w') : PS W w' g gx s t := by
  obtain ⟨v1, v2, h1, h2, h3⟩ := h.box
  exact ⟨h.vol.below hb, ⟨v1, v2, (hb.block _ (lt_of_heap h1)).trans h1, h2.below hb, h3.below hb⟩, h.lo, h.below.trans (hb.mono h.below.size)⟩
theorem PS.open' {W wr : World} {g gx : Nat} {s t : Vol} (h : PS W wr g gx s t) : ∃ b0 o0 c0 b cap, wr.heap[gx]? = some (.cells #[.slice (some ⟨b0, o0, none⟩) 32 c0, .slice (some ⟨b, 0, none⟩) 4 cap] 46 (0, 0)) ∧
    IV (g + 1) wr (.slice (some ⟨b0, o0, none⟩) 32 c0) (rowOf t.now) ∧ SR (g + 1) wr (.slice (some ⟨b, 0, none⟩) 4 cap) t := by
  obtain ⟨v1, v2, h1, h2, h3⟩ := h.box
  obtain ⟨b0, o0, c0, rfl⟩ := h2.row32
  obtain ⟨b, cap, rfl⟩ := h3.sl
  exact ⟨b0, o0, c0, b, cap, h1, h2, h3⟩
theorem PS.done {W w w' : World} {g gx : Nat} {s s' t : Vol} (h : PS W w g gx s t) (hv : VolIs w' g s') (hg : w.grownBy w' (some g)) : PS W w' g gx s' t := by
  obtain ⟨v1, v2, h1, h2, h3⟩ := h.box
  have hlo := h.lo
  exact ⟨hv, ⟨v1, v2, (hg.block _ (lt_of_heap h1) (by simp; omega)).trans h1, h2.grown hg, h3.grown hg⟩, h.lo, h.below.grown hg h.below.size (fun k hk => by cases hk; exact hlo.1)⟩
theorem PS.setNow {W w : World} {g gx : Nat} {s t : Vol} (h : PS W w g gx s t) {u : Value} {n : Nat} (hu : IV (g + 1) w u (rowOf n)) : PS W (w.setCell ⟨gx, 0, none⟩ u) g gx s (t.setNow n) := by
  obtain ⟨v1, v2, h1, h2, h3⟩ := h.box
  have hlo := h.lo
  have hl : W.heap.size ≤ gx := by omega
  exact ⟨h.vol.grown (setCell_grown w ⟨gx, 0, none⟩ u) (by simp only; omega), ⟨u, v2, heap_setCell_same w gx 0 _ _ u h1, hu.set h1 (by decide), (h3.set h1 (by decide) (by decide)).same (fun k _ => ⟨rfl, rfl⟩)⟩, h.lo, h.below.setCell (p := ⟨gx, 0, none⟩) hl _⟩
theorem PS.setAll {W w wx : World} {g gx : Nat} {s t t' : Vol} (h : PS W w g gx s t) {u1 u2 : Value} (h1' : IV (g + 1) w u1 (rowOf t'.now)) (h2' : SR (g + 1) w u2 t') (hw : wx = (w.setCell ⟨gx, 0, none⟩ u1).setCell ⟨gx, 1, none⟩ u2) : PS W wx g gx s t' := by
  obtain ⟨v1, v2, h1, h2, h3⟩ := h.box
  have hlo := h.lo
  have hl : W.heap.size ≤ gx := by omega
  have q0 := heap_setCell_same w gx 0 _ _ u1 h1
  rw [hw]
  exact ⟨(h.vol.grown (setCell_grown w ⟨gx, 0, none⟩ u1) (by simp only; omega)).grown (setCell_grown _ ⟨gx, 1, none⟩ u2) (by simp only; omega), ⟨u1, u2, fill2 h1 _ _, (h1'.set h1 (by decide)).set q0 (by decide), (h2'.set h1 (by decide) (by decide)).set q0 (by decide) (by decide)⟩, h.lo,
    (h.below.setCell (p := ⟨gx, 0, none⟩) hl _).setCell (p := ⟨gx, 1, none⟩) hl _⟩

theorem rows_at {w : World} {a : Option Addr} {n cap : Nat} {rs : List (List Int)} (h : HasRows w (.slice a n cap) rs) {j : Nat} {r : List Int} (hr : rs[j]? = some r) :
    ∃ b off rv, a = some ⟨b, off, none⟩ ∧ w.cell? ⟨b, off + j, none⟩ = some rv ∧ HasInts w rv r ∧ b < w.heap.size := by
  obtain ⟨a', cap', h1, -, -, h4⟩ := h
  cases h1
  obtain ⟨b, off, h5, h8, h6⟩ := h4 (Nat.lt_of_le_of_lt (Nat.zero_le _) (List.getElem?_eq_some_iff.1 hr).1)
  obtain ⟨rv, h7, h9⟩ := h6 j r hr
  exact ⟨b, off, rv, h5, h7, h9, h8⟩
theorem err_same (k : Int) (v : Value) (hv : v = errV k) (w : World) (hg : Handled w) : Calls Tryd.prog 10 #[v, .int .i64 k] w fun e w' => e = .returned (.bool true) ∧ Below w.heap.size w w' := by
  subst hv
  exact (error_any k k w hg).mono fun e w' ⟨h1, h2⟩ => ⟨by rw [h1]; simp, h2⟩
theorem ints_same (va vb : Value) (xs ys : List Int) (w : World) (ha : HasInts w va xs) (hb : HasInts w vb ys) (he : xs = ys) : Calls Tryd.prog 28 #[va, vb] w fun e w' => e = .returned (.bool true) ∧ Below w.heap.size w w' := by
  subst he
  exact (ints_any va vb xs xs w ha hb).mono fun e w' ⟨h1, n, h2⟩ => ⟨by rw [h1, decide_eq_true rfl], by rw [h2]; exact below_drewN' w n⟩
theorem free_below (g : Nat) (s : Vol) (w : World) (h : VolIs w g s) : Calls Tryd.prog 27 #[.pointer (some ⟨g, 0, none⟩)] w fun e w' => e = .returned (.int .i64 (s.free : Nat)) ∧ Below w.heap.size w w' :=
  (free_walk g s w h).mono fun e w' ⟨h1, n, h2⟩ => ⟨h1, by rw [h2]; exact below_drewN' w n⟩

theorem lawin_anyS (a b c : Int) (w : World) :
    Calls Tryd.prog 8 #[.int .i64 a, .int .i64 b, .int .i64 c] w fun e w' => e = .returned (.bool (decide (b ≤ a ∧ a ≤ c))) ∧ w = w' := by
  by_cases h1 : b ≤ a
  · have q1 : decide (b ≤ a) = true := decide_eq_true h1
    by_cases h2 : a ≤ c
    · have q2 : decide (a ≤ c) = true := decide_eq_true h2
      go_enter Tryd.func8, Tryd.ntmps8
      go_wp2
      go_ret
      exact ⟨by simp [h1, h2], rfl⟩
    · have q2 : decide (a ≤ c) = false := decide_eq_false h2
      go_enter Tryd.func8, Tryd.ntmps8
      go_wp2
      go_ret
      exact ⟨by simp, rfl⟩
  · have q1 : decide (b ≤ a) = false := decide_eq_false h1
    go_enter Tryd.func8, Tryd.ntmps8
    go_wp2
    go_ret
    exact ⟨by simp, rfl⟩

end Go.Proofs.YtegibgflhhdddaaDoor
