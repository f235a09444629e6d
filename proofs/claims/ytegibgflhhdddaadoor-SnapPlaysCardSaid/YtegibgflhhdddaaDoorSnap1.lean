/- The volume of snapshots in memory; the walks of its small functions. -/
import Derived.Test.YtegibgflhhdddaaDoorProg
import Derived.Test.YtegibgflhhdddaaDoorBase
import Derived.Lib.TrailingZeros
import Derived.Laws.BitsAllLaws
namespace Go.Proofs.YtegibgflhhdddaaDoor
open Go.RowKit

/-- what a volume is: the plane now, the planes of the snapshots, whether each is there -/
structure Vol where
  now : Nat
  p : Nat → Nat
  b : Nat → Bool

def Vol.ok (s : Vol) : Prop := s.now < 4294967296 ∧ (∀ k, s.p k < 4294967296) ∧ ∀ k, s.b k = false → s.p k = 0

/-- block g holds the volume s -/
structure VolIs (w : World) (g : Nat) (s : Vol) : Prop where
  ok : s.ok
  lt : g < w.heap.size
  now : w.cell? ⟨g, 0, none⟩ = some (.int .u32 (s.now : Nat))
  p : ∀ k, k < 4 → w.cell? ⟨g, 1 + k, none⟩ = some (.int .u32 (s.p k : Nat))
  b : ∀ k, k < 4 → w.cell? ⟨g, 5 + k, none⟩ = some (.bool (s.b k))
  free : ∀ o, w.frozen? ⟨g, o, none⟩ = false

def Vol.all (s : Vol) : Nat := ((((s.now ||| s.p 0) ||| s.p 1) ||| s.p 2) ||| s.p 3)

theorem or_lt {a b : Nat} (ha : a < 4294967296) (hb : b < 4294967296) : a ||| b < 4294967296 := Nat.or_lt_two_pow (n := 32) ha hb

set_option maxHeartbeats 400000 in
theorem all_walk (g : Nat) (s : Vol) (w : World) (h : VolIs w g s) :
    Calls Tryd.prog 44 #[.pointer (some ⟨g, 0, none⟩)] w fun e w' => e = .returned (.int .u32 (s.all : Nat)) ∧ w = w' := by
  have h0 := h.now
  have h1 := h.p 0 (by omega)
  have h2 := h.p 1 (by omega)
  have h3 := h.p 2 (by omega)
  have h4 := h.p 3 (by omega)
  simp only [Nat.add_zero, Nat.reduceAdd] at h1 h2 h3 h4
  obtain ⟨o0, o1, -⟩ := h.ok
  have e1 := u32_or_nat s.now (s.p 0) o0 (o1 0)
  have e2 := u32_or_nat _ (s.p 1) (or_lt o0 (o1 0)) (o1 1)
  have e3 := u32_or_nat _ (s.p 2) (or_lt (or_lt o0 (o1 0)) (o1 1)) (o1 2)
  have e4 := u32_or_nat _ (s.p 3) (or_lt (or_lt (or_lt o0 (o1 0)) (o1 1)) (o1 2)) (o1 3)
  have HALL := Lib.hid (show s.all = ((((s.now ||| s.p 0) ||| s.p 1) ||| s.p 2) ||| s.p 3) from rfl)
  clear h o0 o1
  go_enter Tryd.func44, Tryd.ntmps44
  have i0 : ∀ a b c d w, (Instr.index 71 (.agg #[a, b, c, d]) (.int .i64 0)).run Tryd.prog w = .ok a w := fun _ _ _ _ _ => by kernel_rfl
  have i1 : ∀ a b c d w, (Instr.index 71 (.agg #[a, b, c, d]) (.int .i64 1)).run Tryd.prog w = .ok b w := fun _ _ _ _ _ => by kernel_rfl
  have i2 : ∀ a b c d w, (Instr.index 71 (.agg #[a, b, c, d]) (.int .i64 2)).run Tryd.prog w = .ok c w := fun _ _ _ _ _ => by kernel_rfl
  have i3 : ∀ a b c d w, (Instr.index 71 (.agg #[a, b, c, d]) (.int .i64 3)).run Tryd.prog w = .ok d w := fun _ _ _ _ _ => by kernel_rfl
  go_wp2_with fail
  refine wp_loop_rounds 5 ?_
  rw [rounds_succ]
  go_wp2_with fail
  rw [rounds_succ]
  go_wp2_with fail
  rw [rounds_succ]
  go_wp2_with fail
  rw [rounds_succ]
  go_wp2_with fail
  rw [rounds_succ]
  go_wp2_with fail
  go_ret
  exact ⟨by rw [HALL.out]; rfl, rfl⟩

end Go.Proofs.YtegibgflhhdddaaDoor
