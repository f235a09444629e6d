/- The walk of snapFact. -/
import Derived.Test.YtgiehdlkgjmojaaDoorPlaned
namespace Go.Proofs.YtgiehdlkgjmojaaDoor
open Go.RowKit

def v1 : Vol := Vol.new.setNow 1
def v2 : Vol := v1.setP 0 1 true
def v3 : Vol := v2.setNow 0
def v4 : Vol := v3.setNow 2

theorem f0 : Vol.new.all ≠ 4294967295 ∧ Vol.new.first = 0 ∧ Vol.new.now ||| 2 ^ Vol.new.first = 1 := by decide
theorem f3 : v3.all ≠ 4294967295 ∧ v3.first = 1 ∧ v3.now ||| 2 ^ v3.first = 2 := by decide
theorem f4 : v4.free = 30 := by decide
theorem f1 : v1.free = 31 := by decide

set_option maxHeartbeats 1000000 in
theorem snapFact_walk (W : World) (hT : Tabled W) :
    Calls Tryd.prog 17 #[] W fun e w' => e = .returned (.bool true) ∧ Below W.heap.size W w' := by
  have HT := Lib.hid hT
  clear hT
  go_enter Tryd.func17, Tryd.ntmps17
  go_wp2_with fail
  refine (new_walk _).mono ?_
  rintro _ w1 ⟨rfl, hv, hb⟩
  obtain ⟨g, hg⟩ : ∃ g, g = W.heap.size := ⟨_, rfl⟩
  rw [← hg] at hv ⊢
  have hgw : W.heap.size ≤ g := by omega
  have HV := Lib.hid hv
  have HB := Lib.hid hb
  clear hv hb hg
  go_wp2_with fail
  refine (take_walk g _ _ HV.out (HT.out.below HB.out) f0.1).mono ?_
  rw [f0.2.2, f0.2.1]
  rintro _ w2 ⟨rfl, hv, hg⟩
  have HV2 := Lib.hid (show VolIs w2 g v1 from hv)
  have HB2 := Lib.hid (below_grown_some HB.out hgw hg)
  clear hv hg
  go_wp2_with fail
  refine (snap_walk g _ 0 _ HV2.out (by omega) rfl).mono ?_
  rintro _ w3 ⟨rfl, hv, hg⟩
  have HV3 := Lib.hid (show VolIs w3 g v2 from hv)
  have HB3 := Lib.hid (below_grown_some HB2.out hgw hg)
  clear hv hg
  go_wp2_with fail
  refine (leave_walk g _ 0 _ HV3.out (by omega) (by decide)).mono ?_
  rintro _ w4 ⟨rfl, hv, hg⟩
  have HV4 := Lib.hid (show VolIs w4 g v3 from hv)
  have HB4 := Lib.hid (below_grown_some HB3.out hgw hg)
  clear hv hg
  go_wp2_with fail
  refine (take_walk g _ _ HV4.out (HT.out.below HB4.out) f3.1).mono ?_
  rw [f3.2.2, f3.2.1]
  rintro _ w5 ⟨rfl, hv, hg⟩
  have HV5 := Lib.hid (show VolIs w5 g v4 from hv)
  have HB5 := Lib.hid (below_grown_some HB4.out hgw hg)
  clear hv hg
  go_wp2_with fail
  refine (free_walk g _ _ HV5.out).mono ?_
  rw [f4]
  rintro _ w6 ⟨rfl, d, rfl⟩
  go_wp2_with fail
  go_ret
  exact ⟨rfl, below_drewN HB5.out _⟩

end Go.Proofs.YtgiehdlkgjmojaaDoor
