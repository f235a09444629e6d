/- The walk of Write. -/
import Derived.Test.YtegibgflhhdddaaDoorFtl6
namespace Go.Proofs.YtegibgflhhdddaaDoor
open Go.RowKit Ftl

set_option maxHeartbeats 1000000 in
theorem fwrite_no (w : World) (g : Nat) (p v : Int) (h : ¬ ((0 ≤ p ∧ p ≤ 7) ∧ (0 ≤ v ∧ v ≤ 1000))) :
    Calls Tryd.prog 11 #[.pointer (some ⟨g, 0, none⟩), .int .i64 p, .int .i64 v] w fun e w' => e = .returned (.iface 64 (.int .i64 1)) ∧ w = w' := by
  by_cases hp : 0 ≤ p ∧ p ≤ 7
  · have D := Lib.hid (decide_eq_true hp)
    have D2 := Lib.hid (decide_eq_false (fun hv => h ⟨hp, hv⟩))
    clear h hp
    go_enter Tryd.func11, Tryd.ntmps11
    go_wp2_with fail
    refine (within_anyF _ _ _ _).mono ?_
    rw [D.out]
    rintro _ w1 ⟨rfl, rfl⟩
    go_wp2_with fail
    refine (within_anyF _ _ _ _).mono ?_
    rw [D2.out]
    rintro _ w1 ⟨rfl, rfl⟩
    go_wp2_with fail
    go_ret
    exact ⟨rfl, rfl⟩
  · have D := Lib.hid (decide_eq_false hp)
    clear h hp
    go_enter Tryd.func11, Tryd.ntmps11
    go_wp2_with fail
    refine (within_anyF _ _ _ _).mono ?_
    rw [D.out]
    rintro _ w1 ⟨rfl, rfl⟩
    go_wp2_with fail
    go_ret
    exact ⟨rfl, rfl⟩

set_option maxRecDepth 100000 in
set_option maxHeartbeats 2000000 in
theorem fwrite_walk (w : World) (B base g : Nat) (s : Fl) (p : Nat) (v : Int) (hs : FlashIs w B base g s) (hok : Ok s) (hp : p < 8) (hv : 0 ≤ v ∧ v ≤ 1000) (hm : ∀ b, s.times b ≤ 999999) :
    Calls Tryd.prog 11 #[.pointer (some ⟨g, 0, none⟩), .int .i64 (p : Nat), .int .i64 v] w fun e w' => e = .returned .nilIface ∧ FlashIs w' B base g (s.write (p, v)) ∧ Below B w w' ∧ KeptF w w' g := by
  have D := Lib.hid (decide_eq_true (show (0 : Int) ≤ (p : Int) ∧ (p : Int) ≤ 7 by omega))
  have D2 := Lib.hid (decide_eq_true hv)
  have HS := Lib.hid hs
  have HOK := Lib.hid hok
  have HM := Lib.hid hm
  have c28 := hs.acts
  have hact := hs.act
  obtain ⟨V, hV, -⟩ := hs.rows
  obtain ⟨c0, hown⟩ := hV s.act hact
  obtain ⟨va, cap, hva⟩ := own_shape' hown
  rw [hva] at c0
  obtain ⟨n, hn⟩ : ∃ n, n = (s.row s.act).length := ⟨_, rfl⟩
  have hn4 := hok.small s.act
  rw [← hn] at c0 hn4
  have HN := Lib.hid hn
  obtain ⟨a, ha⟩ : ∃ a, a = s.act := ⟨_, rfl⟩
  rw [← ha] at c0 c28 hact
  have hgw : g < w.heap.size := by have := hs.lo; omega
  have ha6 : (a : Int) < 6 := by omega
  have ha0 : (0 : Int) ≤ (a : Int) := by omega
  have hb1 : Below B w w := Below.refl _ _
  clear hs hok hm hV hown hva hn ha hv
  go_enter Tryd.func11, Tryd.ntmps11
  go_wp2_with fail
  refine (within_anyF _ _ _ _).mono ?_
  rw [D.out]
  rintro _ w1 ⟨rfl, rfl⟩
  go_wp2_with fail
  refine (within_anyF _ _ _ _).mono ?_
  rw [D2.out]
  rintro _ w1 ⟨rfl, rfl⟩
  by_cases hf : n = 4
  · have HF := Lib.hid (show (s.row s.act).length = 4 by rw [← HN.out]; exact hf)
    have HX := Lib.hid (show s.write (p, v) = s.next.down (p, v) by unfold Fl.write; rw [if_pos HF.out])
    subst hf
    go_wp2_with fail
    go_quiet (fail)
    have HSD := Lib.hid (HS.out.drewN nq)
    have HBD := Lib.hid (below_drewN hb1 nq)
    have HKD := Lib.hid (KeptF.of_below g (below_drewN' w nq))
    go_wp2_with fail
    refine (next_walk _ B base g s HSD.out HOK.out HF.out HM.out).mono ?_
    rintro _ w2 ⟨rfl, h2, hb2, hk2⟩
    have HS2 := Lib.hid h2
    have HB2 := Lib.hid (HBD.out.trans hb2)
    have HK2 := Lib.hid (HKD.out.trans hk2)
    clear h2 hb2 hk2
    go_wp2_with fail
    refine (down_walk _ B base g s.next (p, v) HS2.out hp (by have := (HOK.out.next HF.out).2.1; omega)).mono ?_
    rintro _ w3 ⟨rfl, h3, hb3, hk3⟩
    have HS3 := Lib.hid h3
    have HB3 := Lib.hid (HB2.out.trans hb3)
    have HK3 := Lib.hid (HK2.out.trans hk3)
    clear h3 hb3 hk3
    go_wp2_with fail
    go_ret
    exact ⟨rfl, by rw [HX.out]; exact HS3.out, HB3.out, HK3.out⟩
  · have HX := Lib.hid (show s.write (p, v) = s.down (p, v) by unfold Fl.write; rw [if_neg (by rw [← HN.out]; exact hf)])
    have q1 : ((n : Int) == 4) = false := beq_eq_false_iff_ne.2 (by omega)
    clear hf
    go_wp2_with fail
    go_quiet (fail)
    have HSD := Lib.hid (HS.out.drewN nq)
    have HBD := Lib.hid (below_drewN hb1 nq)
    have HKD := Lib.hid (KeptF.of_below g (below_drewN' w nq))
    go_wp2_with fail
    refine (down_walk _ B base g s (p, v) HSD.out hp (by rw [← HN.out]; omega)).mono ?_
    rintro _ w3 ⟨rfl, h3, hb3, hk3⟩
    have HS3 := Lib.hid h3
    have HB3 := Lib.hid (HBD.out.trans hb3)
    have HK3 := Lib.hid (HKD.out.trans hk3)
    clear h3 hb3 hk3
    go_wp2_with fail
    go_ret
    exact ⟨rfl, by rw [HX.out]; exact HS3.out, HB3.out, HK3.out⟩

end Go.Proofs.YtegibgflhhdddaaDoor
