/- The walk of chunkFact: the closed fact holds. -/
import Derived.Test.YtnkihdkcmhbhkaaCuts
namespace Go.Proofs.Ytnkihdkcmhbhkaa
open Go.RowKit Chunk

theorem cuts24 : cutsI [97, 98, 99, 100, 101, 102, 103, 104, 105, 106, 107, 108, 109, 110, 111, 112, 113, 114, 115, 116, 117, 118, 119, 120] = [16, 24] := by decide +kernel

set_option maxHeartbeats 400000 in
theorem chunkFact_any (w : World) :
    Calls Try.prog 8 #[] w fun e w' => e = .returned (.bool true) ∧ Below w.heap.size w w' := by
  go_enter Try.func8, Try.ntmps8
  go_wp2_with fail
  refine (cuts_any _ _ (by decide)).mono ?_
  rintro e w1 ⟨v, rfl, hown, hb⟩
  have ho : w1.ownsRow w.heap.size 3 1 v [(16 : Int), 24].length (ints [16, 24]) := by rw [← cuts24]; exact hown
  clear hown
  obtain ⟨_, hi⟩ := HasInts.of_own ho
  obtain ⟨a, cap, rfl, _, _, hc3⟩ := hi
  obtain ⟨b, off, rfl, hlt, hcell⟩ := hc3 (by decide)
  have h1 := hcell 1 24 rfl
  have HB := Lib.hid hb
  clear hb hcell hc3 ho
  go_wp2
  go_ret
  exact ⟨rfl, HB.out⟩

end Go.Proofs.Ytnkihdkcmhbhkaa
