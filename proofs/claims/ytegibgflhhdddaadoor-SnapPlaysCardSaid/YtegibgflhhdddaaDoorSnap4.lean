/- The walks of Snap, Drop and Turn. -/
import Derived.Test.YtegibgflhhdddaaDoorSnap3
namespace Go.Proofs.YtegibgflhhdddaaDoor
open Go.RowKit

theorem volIs_setP2 {w : World} {g : Nat} {s : Vol} (h : VolIs w g s) {k p : Nat} {b : Bool} (hk : k < 4) (hp : p < 4294967296) (hb : b = false → p = 0) :
    VolIs ((w.setCell ⟨g, 5 + k, none⟩ (.bool b)).setCell ⟨g, 1 + k, none⟩ (.int .u32 (p : Nat))) g (s.setP k p b) := by
  refine ⟨⟨h.ok.1, fun j => ?_, fun j => ?_⟩, by simpa [World.setCell] using h.lt, ?_, fun j hj => ?_, fun j hj => ?_, fun o => ?_⟩
  · simp only [Vol.setP]; split
    · exact hp
    · exact h.ok.2.1 j
  · simp only [Vol.setP]; split
    · exact hb
    · exact h.ok.2.2 j
  · rw [World.cell?_setCell_other _ _ _ _ (by simp <;> omega), World.cell?_setCell_other _ _ _ _ (by simp <;> omega)]; exact h.now
  · simp only [Vol.setP]
    split
    · rename_i e; subst e
      exact World.cell?_setCell_same _ _ _ ((World.cell?_setCell_other _ _ _ _ (by simp <;> omega)).trans (h.p j hj))
    · rename_i e
      rw [World.cell?_setCell_other _ _ _ _ (by simp <;> omega), World.cell?_setCell_other _ _ _ _ (by simp <;> omega)]; exact h.p j hj
  · rw [World.cell?_setCell_other _ _ _ _ (by simp <;> omega)]
    simp only [Vol.setP]
    split
    · rename_i e; subst e
      exact World.cell?_setCell_same _ _ _ (h.b j hj)
    · rename_i e
      rw [World.cell?_setCell_other _ _ _ _ (by simp <;> omega)]; exact h.b j hj
  · rw [World.frozen?_setCell, World.frozen?_setCell]; exact h.free o

set_option maxHeartbeats 400000 in
theorem turn_walk (g : Nat) (s : Vol) (k : Nat) (w : World) (h : VolIs w g s) (hk : k < 4) (hb : s.b k = true) :
    Calls Tryd.prog 26 #[.pointer (some ⟨g, 0, none⟩), .int .i64 (k : Nat)] w fun e w' => e = .returned .nilIface ∧ VolIs w' g (s.setNow (s.p k)) ∧ w.grownBy w' (some g) := by
  have H := Lib.hid h
  have h0 := h.now
  have hp := h.p k hk
  have hbc := h.b k hk
  rw [hb] at hbc
  have hf0 := h.free 0
  have o1 := h.ok.2.1 k
  clear h hb
  go_enter Tryd.func26, Tryd.ntmps26
  go_wp2_with fail
  refine (num_ok _ _ (by omega)).mono ?_
  rintro _ w1 ⟨rfl, rfl⟩
  go_wp2_with fail
  go_ret
  exact ⟨rfl, volIs_setNow H.out o1, setCell_grown _ _ _⟩

set_option maxHeartbeats 400000 in
theorem turn_none (g : Nat) (s : Vol) (k : Nat) (w : World) (h : VolIs w g s) (hk : k < 4) (hb : s.b k = false) :
    Calls Tryd.prog 26 #[.pointer (some ⟨g, 0, none⟩), .int .i64 (k : Nat)] w fun e w' => e = .returned (.iface 64 (.int .i64 5)) ∧ w = w' := by
  have hbc := h.b k hk
  rw [hb] at hbc
  clear h hb
  go_enter Tryd.func26, Tryd.ntmps26
  go_wp2_with fail
  refine (num_ok _ _ (by omega)).mono ?_
  rintro _ w1 ⟨rfl, rfl⟩
  go_wp2_with fail
  go_ret
  exact ⟨rfl, rfl⟩

theorem turn_bad (a : Value) (k : Int) (w : World) (h : ¬ (0 ≤ k ∧ k ≤ 3)) :
    Calls Tryd.prog 26 #[a, .int .i64 k] w fun e w' => e = .returned (.iface 64 (.int .i64 1)) ∧ w = w' := by
  go_enter Tryd.func26, Tryd.ntmps26
  go_wp2_with fail
  refine (num_bad _ _ h).mono ?_
  rintro _ w1 ⟨rfl, rfl⟩
  go_wp2_with fail
  go_ret
  exact ⟨rfl, rfl⟩

set_option maxHeartbeats 400000 in
theorem snap_walk (g : Nat) (s : Vol) (k : Nat) (w : World) (h : VolIs w g s) (hk : k < 4) (hb : s.b k = false) :
    Calls Tryd.prog 24 #[.pointer (some ⟨g, 0, none⟩), .int .i64 (k : Nat)] w fun e w' => e = .returned .nilIface ∧ VolIs w' g (s.setP k s.now true) ∧ w.grownBy w' (some g) := by
  have H := Lib.hid h
  have h0 := h.now
  have hp := h.p k hk
  have hbc := h.b k hk
  have hf1 := h.free (1 + k)
  have hf2 := h.free (5 + k)
  have o0 := h.ok.1
  rw [hb] at hbc
  clear h hb
  go_enter Tryd.func24, Tryd.ntmps24
  go_wp2_with fail
  refine (num_ok _ _ (by omega)).mono ?_
  rintro _ w1 ⟨rfl, rfl⟩
  go_wp2_with fail
  go_region
  all_goals
    go_wp2_with fail
    go_ret
    first
      | exact ⟨rfl, (volIs_setP1 H.out (b := true) hk o0 (fun h => by cases h)).drewN 1, grownBy_trans (grownBy_trans (setCell_grown _ _ _) (setCell_grown _ _ _)) (grownBy_drewN _ 1 _)⟩
      | exact ⟨rfl, (volIs_setP2 H.out (b := true) hk o0 (fun h => by cases h)).drewN 1, grownBy_trans (grownBy_trans (setCell_grown _ _ _) (setCell_grown _ _ _)) (grownBy_drewN _ 1 _)⟩

set_option maxHeartbeats 400000 in
theorem snap_clash (g : Nat) (s : Vol) (k : Nat) (w : World) (h : VolIs w g s) (hk : k < 4) (hb : s.b k = true) :
    Calls Tryd.prog 24 #[.pointer (some ⟨g, 0, none⟩), .int .i64 (k : Nat)] w fun e w' => e = .returned (.iface 64 (.int .i64 6)) ∧ w = w' := by
  have hbc := h.b k hk
  rw [hb] at hbc
  clear h hb
  go_enter Tryd.func24, Tryd.ntmps24
  go_wp2_with fail
  refine (num_ok _ _ (by omega)).mono ?_
  rintro _ w1 ⟨rfl, rfl⟩
  go_wp2_with fail
  go_ret
  exact ⟨rfl, rfl⟩

theorem snap_bad (a : Value) (k : Int) (w : World) (h : ¬ (0 ≤ k ∧ k ≤ 3)) :
    Calls Tryd.prog 24 #[a, .int .i64 k] w fun e w' => e = .returned (.iface 64 (.int .i64 1)) ∧ w = w' := by
  go_enter Tryd.func24, Tryd.ntmps24
  go_wp2_with fail
  refine (num_bad _ _ h).mono ?_
  rintro _ w1 ⟨rfl, rfl⟩
  go_wp2_with fail
  go_ret
  exact ⟨rfl, rfl⟩

theorem free_le (s : Vol) : s.free ≤ 32 := by unfold Vol.free; omega

set_option maxHeartbeats 1000000 in
theorem drop_walk (g : Nat) (s : Vol) (k : Nat) (w : World) (h : VolIs w g s) (hk : k < 4) (hb : s.b k = true) :
    Calls Tryd.prog 25 #[.pointer (some ⟨g, 0, none⟩), .int .i64 (k : Nat)] w fun e w' => e = .returned (.tuple #[.int .i64 (((s.setP k 0 false).free : Nat) - (s.free : Nat)), .nilIface]) ∧ VolIs w' g (s.setP k 0 false) ∧ w.grownBy w' (some g) := by
  have H := Lib.hid h
  have hbc := h.b k hk
  rw [hb] at hbc
  have hle := free_le s
  clear h hb
  go_enter Tryd.func25, Tryd.ntmps25
  go_wp2_with fail
  refine (num_ok _ _ (by omega)).mono ?_
  rintro _ w1 ⟨rfl, rfl⟩
  go_wp2_with fail
  refine (free_walk g s _ H.out).mono ?_
  rintro _ w1 ⟨rfl, d, rfl⟩
  have hp := H.out.p k hk
  have hf1 := H.out.free (1 + k)
  have hf2 := H.out.free (5 + k)
  have hle2 := free_le (s.setP k 0 false)
  go_wp2_with fail
  go_region
  all_goals
    clear hp hbc hf1 hf2
    go_wp2_with fail
    first
      | refine (free_walk g (s.setP k 0 false) _ (((volIs_setP1 (H.out.drewN d) (p := 0) (b := false) hk (by omega) (fun _ => rfl)).drewN 1))).mono ?_
      | refine (free_walk g (s.setP k 0 false) _ (((volIs_setP2 (H.out.drewN d) (p := 0) (b := false) hk (by omega) (fun _ => rfl)).drewN 1))).mono ?_
    rintro _ w1 ⟨rfl, d2, rfl⟩
    go_wp2_with fail
    go_ret2
    refine ⟨rfl, ?_, ?_⟩
    · first
      | exact (volIs_setP1 (H.out.drewN d) (p := 0) (b := false) hk (by omega) (fun _ => rfl)).drewN (1 + d2)
      | exact (volIs_setP2 (H.out.drewN d) (p := 0) (b := false) hk (by omega) (fun _ => rfl)).drewN (1 + d2)
    · exact grownBy_trans (grownBy_drewN _ d _) (grownBy_trans (grownBy_trans (setCell_grown _ _ _) (setCell_grown _ _ _)) (grownBy_drewN _ (1 + d2) _))

set_option maxHeartbeats 400000 in
theorem drop_none (g : Nat) (s : Vol) (k : Nat) (w : World) (h : VolIs w g s) (hk : k < 4) (hb : s.b k = false) :
    Calls Tryd.prog 25 #[.pointer (some ⟨g, 0, none⟩), .int .i64 (k : Nat)] w fun e w' => e = .returned (.tuple #[.int .i64 0, .iface 64 (.int .i64 5)]) ∧ w = w' := by
  have hbc := h.b k hk
  rw [hb] at hbc
  clear h hb
  go_enter Tryd.func25, Tryd.ntmps25
  go_wp2_with fail
  refine (num_ok _ _ (by omega)).mono ?_
  rintro _ w1 ⟨rfl, rfl⟩
  go_wp2_with fail
  go_ret2
  exact ⟨rfl, rfl⟩

theorem drop_bad (a : Value) (k : Int) (w : World) (h : ¬ (0 ≤ k ∧ k ≤ 3)) :
    Calls Tryd.prog 25 #[a, .int .i64 k] w fun e w' => e = .returned (.tuple #[.int .i64 0, .iface 64 (.int .i64 1)]) ∧ w = w' := by
  go_enter Tryd.func25, Tryd.ntmps25
  go_wp2_with fail
  refine (num_bad _ _ h).mono ?_
  rintro _ w1 ⟨rfl, rfl⟩
  go_wp2_with fail
  go_ret2
  exact ⟨rfl, rfl⟩

end Go.Proofs.YtegibgflhhdddaaDoor
