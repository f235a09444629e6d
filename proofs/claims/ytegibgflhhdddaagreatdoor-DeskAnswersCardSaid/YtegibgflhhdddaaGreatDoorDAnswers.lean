/- The walk of DeskAnswers. -/
import Derived.Test.YtegibgflhhdddaaGreatDoorRefSess
import Derived.Test.YtegibgflhhdddaaGreatDoorRun3
namespace Go.Proofs.YtegibgflhhdddaaGreatDoor
open Go.RowKit

set_option maxRecDepth 100000 in
set_option maxHeartbeats 2000000 in
theorem danswers_walk (a0 : ByteArray) (W : World) (h0 : a0.size ≤ 140737488351232) (hH : Handled W) (hE : Env W.heap.size W) :
    Calls Tryz.prog 3 #[.string a0] W fun e w' => e = .returned (.bool true) ∧ Below W.heap.size W w' := by
  have HE := Lib.hid hE
  have HH : Hid (Hand W.heap.size W) := Lib.hid (fun w' hb => hH.below hb)
  clear hE hH
  obtain ⟨t, ht⟩ : ∃ t : ByteArray, t = ⟨(runT a0.data.toList).toArray⟩ := ⟨_, rfl⟩
  have HT := Lib.hid ht
  clear ht
  go_enter Tryz.func3, Tryz.ntmps3
  go_wp2_with fail
  refine (run_text a0 W W.heap.size (Nat.le_refl _) HE.out HH.out (by omega)).mono ?_
  rintro _ w1 ⟨rfl, hb1⟩
  rw [← HT.out]
  have HB1 := Lib.hid hb1
  clear hb1
  go_wp2_with fail
  refine (refsess_walk a0 w1 h0).mono ?_
  rintro _ w2 ⟨rfl, hb2⟩
  rw [← HT.out]
  have HB2 := Lib.hid (HB1.out.trans (hb2.mono HB1.out.size))
  clear hb2
  have q : (t.toList == t.toList) = true := beq_self_eq_true _
  go_wp2_with fail
  go_ret
  exact ⟨rfl, HB2.out⟩

end Go.Proofs.YtegibgflhhdddaaGreatDoor
