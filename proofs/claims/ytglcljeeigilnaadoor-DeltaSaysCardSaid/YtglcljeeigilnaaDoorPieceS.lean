/- The walk of Pieces: the same pieces. -/
import Derived.Test.YtglcljeeigilnaaDoorDelta3
namespace Go.Proofs.YtglcljeeigilnaaDoor
open Go.RowKit Delta

set_option maxHeartbeats 1000000 in
theorem pieces_same (va vb : Value) (l : List Pc) (w : World) (ha : HasPieces w va l) (hb : HasPieces w vb l) :
    Calls Tryd.prog 20 #[va, vb] w fun e w' => e = .returned (.bool true) ∧ Below w.heap.size w w' := by
  obtain ⟨aa, capa, rfl, ha1, ha2, hca⟩ := ha
  obtain ⟨ab', capb, rfl, hb1, hb2, hcb⟩ := hb
  have hcm : l.length ≤ 9223372036854775807 := by unfold maxLen at ha2; omega
  obtain ⟨n, hn⟩ : ∃ n, n = l.length := ⟨_, rfl⟩
  rw [← hn] at hcm hca hcb ⊢
  have HN := Lib.hid hn
  have HA := Lib.hid hca
  have HB := Lib.hid hcb
  have q0 : ((n : Int) == (n : Int)) = true := by simp
  clear hn hca hcb ha1 ha2 hb1 hb2
  go_enter Tryd.func20, Tryd.ntmps20
  go_wp2_with fail
  go_loopw [5] (fun ix wr => ∃ k : Nat, k ≤ n ∧ ix = .int .i64 k ∧ Below w.heap.size w wr) (fun ix _ => n - (intOf ix).toNat)
  case atStart => exact ⟨0, by omega, rfl, Below.refl _ _⟩
  case round =>
    obtain ⟨k, hk, rfl, hbl⟩ := hrel
    have HBL := Lib.hid hbl
    clear hbl
    by_cases hlt : k < n
    · have q1 : decide (k < n) = true := decide_eq_true hlt
      obtain ⟨p, hp⟩ : ∃ p, l[k]? = some p := ⟨_, List.getElem?_eq_getElem (by have := HN.out; omega)⟩
      obtain ⟨b1, o1, rfl, hbw1, hcs1⟩ := HA.out (by omega)
      obtain ⟨b2, o2, rfl, hbw2, hcs2⟩ := HB.out (by omega)
      obtain ⟨c1, c2, c3⟩ := hcs1 k p hp
      obtain ⟨d1, d2, d3⟩ := hcs2 k p hp
      rw [← HBL.out.cell (p := ⟨b1, o1 + k * 3, none⟩) hbw1] at c1
      rw [← HBL.out.cell (p := ⟨b1, o1 + k * 3 + 1, none⟩) hbw1] at c2
      rw [← HBL.out.cell (p := ⟨b1, o1 + k * 3 + 2, none⟩) hbw1] at c3
      rw [← HBL.out.cell (p := ⟨b2, o2 + k * 3, none⟩) hbw2] at d1
      rw [← HBL.out.cell (p := ⟨b2, o2 + k * 3 + 1, none⟩) hbw2] at d2
      rw [← HBL.out.cell (p := ⟨b2, o2 + k * 3 + 2, none⟩) hbw2] at d3
      have i1 : (0 : Int) ≤ (k : Int) := by omega
      have i2 : (k : Int) < (n : Int) := by omega
      clear hcs1 hcs2 hp
      go_wp2_with fail
      go_quiet (fail)
      go_wp2_with fail
      go_roundw
      case rel => exact ⟨k + 1, by omega, by go_num, below_drewN HBL.out _⟩
      case measure => simp [intOf]; omega
    · obtain rfl : k = n := by omega
      have q1 : decide (k < k) = false := decide_eq_false hlt
      go_wp2_with fail
      go_ret
      exact ⟨rfl, HBL.out⟩

theorem HasPieces.lit (w : World) (l : List Pc) (e : TypeId) (hl : l.length ≤ 1000) : HasPieces (w.alloc (.cells (piecesV l).toArray e)) (.slice (some ⟨w.heap.size, 0, none⟩) l.length l.length) l := by
  refine ⟨_, _, rfl, Nat.le_refl _, by unfold maxLen; omega, fun _ => ⟨w.heap.size, 0, rfl, by simp, fun j p hp => ?_⟩⟩
  obtain ⟨p1, p2, p3⟩ := piecesV_at hp
  rw [World.cell?_alloc_at _ _ _ _ rfl, World.cell?_alloc_at _ _ _ _ rfl, World.cell?_alloc_at _ _ _ _ rfl]
  simp only [Nat.zero_add]
  refine ⟨?_, ?_, ?_⟩
  · simpa using p1
  · simpa using p2
  · simpa using p3

end Go.Proofs.YtglcljeeigilnaaDoor
