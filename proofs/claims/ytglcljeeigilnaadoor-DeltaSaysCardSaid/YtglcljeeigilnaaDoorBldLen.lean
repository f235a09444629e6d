/- A strings.Builder at some address: Len. -/
import Derived.Test.YtglcljeeigilnaaDoorBld
namespace Go.Proofs.YtglcljeeigilnaaDoor
open Go.RowKit
open Go.Lib (byteCells strCells strCells_length byteCells_length byteCells_append)

theorem Bld.len {w : World} {T cells base b off : Nat} {l : List UInt8} (h : Bld w T cells base b off l) : ∃ va cap, w.cell? ⟨b, off + 1, none⟩ = some (.slice va l.length cap) := by
  obtain ⟨v, h1, h2⟩ := h.row
  rcases h2.2 with ⟨rfl, h0⟩ | ⟨g', cap', cur, fz, rfl, -⟩
  · exact ⟨none, 0, by rw [h0]; exact h1⟩
  · exact ⟨_, _, h1⟩

set_option maxHeartbeats 1000000 in
theorem bld_len (w : World) (T cells base b off : Nat) (l : List UInt8) (h : Bld w T cells base b off l) :
    Calls Tryd.prog 36 #[.pointer (some ⟨b, off, none⟩)] w fun e w' => e = .returned (.int .i64 l.length) ∧ w = w' := by
  obtain ⟨va, cap, c1⟩ := h.len
  obtain ⟨n, hn⟩ : ∃ n, n = l.length := ⟨_, rfl⟩
  rw [← hn] at c1 ⊢
  clear hn h
  go_enter Tryd.func36, Tryd.ntmps36
  go_wp2_with fail
  go_ret
  exact ⟨rfl, rfl⟩

end Go.Proofs.YtglcljeeigilnaaDoor
