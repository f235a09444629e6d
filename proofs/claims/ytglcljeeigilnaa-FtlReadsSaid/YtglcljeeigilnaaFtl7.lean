/- The walks of Write and of ftlFact. -/
import Derived.Test.YtglcljeeigilnaaFtl6
namespace Go.Proofs.Ytglcljeeigilnaa
open Go.RowKit Ftl

set_option maxHeartbeats 1000000 in
theorem fwrite_no (w : World) (g : Nat) (p v : Int) (h : ¬ ((0 ≤ p ∧ p ≤ 7) ∧ (0 ≤ v ∧ v ≤ 1000))) :
    Calls Try.prog 16 #[.pointer (some ⟨g, 0, none⟩), .int .i64 p, .int .i64 v] w fun e w' => e = .returned (.iface 63 (.int .i64 1)) ∧ w = w' := by
  by_cases hp : 0 ≤ p ∧ p ≤ 7
  · have D := Lib.hid (decide_eq_true hp)
    have D2 := Lib.hid (decide_eq_false (fun hv => h ⟨hp, hv⟩))
    clear h hp
    go_enter Try.func16, Try.ntmps16
    go_wp2_with fail
    refine (within_anyF _ _ _ _).mono ?_
    rw [D.out]
    rintro _ w1 ⟨rfl, rfl⟩
    go_wp2_with fail
    refine (within_anyF _ _ _ _).mono ?_
    rw [D2.out]
    rintro _ w1 ⟨rfl, rfl⟩
    go_wp2_with fail
    go_ret
    exact ⟨rfl, rfl⟩
  · have D := Lib.hid (decide_eq_false hp)
    clear h hp
    go_enter Try.func16, Try.ntmps16
    go_wp2_with fail
    refine (within_anyF _ _ _ _).mono ?_
    rw [D.out]
    rintro _ w1 ⟨rfl, rfl⟩
    go_wp2_with fail
    go_ret
    exact ⟨rfl, rfl⟩

set_option maxRecDepth 100000 in
set_option maxHeartbeats 2000000 in
theorem fwrite_walk (w : World) (B base g : Nat) (s : Fl) (p : Nat) (v : Int) (hs : FlashIs w B base g s) (hok : Ok s) (hp : p < 8) (hv : 0 ≤ v ∧ v ≤ 1000) (hm : ∀ b, s.times b ≤ 999999) :
    Calls Try.prog 16 #[.pointer (some ⟨g, 0, none⟩), .int .i64 (p : Nat), .int .i64 v] w fun e w' => e = .returned .nilIface ∧ FlashIs w' B base g (s.write (p, v)) ∧ Below B w w' ∧ KeptF w w' g := by
  have D := Lib.hid (decide_eq_true (show (0 : Int) ≤ (p : Int) ∧ (p : Int) ≤ 7 by omega))
  have D2 := Lib.hid (decide_eq_true hv)
  have HS := Lib.hid hs
  have HOK := Lib.hid hok
  have HM := Lib.hid hm
  have c28 := hs.acts
  have hact := hs.act
  obtain ⟨V, hV, -⟩ := hs.rows
  obtain ⟨c0, hown⟩ := hV s.act hact
  obtain ⟨va, cap, hva⟩ := own_shape' hown
  rw [hva] at c0
  obtain ⟨n, hn⟩ : ∃ n, n = (s.row s.act).length := ⟨_, rfl⟩
  have hn4 := hok.small s.act
  rw [← hn] at c0 hn4
  have HN := Lib.hid hn
  obtain ⟨a, ha⟩ : ∃ a, a = s.act := ⟨_, rfl⟩
  rw [← ha] at c0 c28 hact
  have hgw : g < w.heap.size := by have := hs.lo; omega
  have ha6 : (a : Int) < 6 := by omega
  have ha0 : (0 : Int) ≤ (a : Int) := by omega
  have hb1 : Below B w w := Below.refl _ _
  clear hs hok hm hV hown hva hn ha hv
  go_enter Try.func16, Try.ntmps16
  go_wp2_with fail
  refine (within_anyF _ _ _ _).mono ?_
  rw [D.out]
  rintro _ w1 ⟨rfl, rfl⟩
  go_wp2_with fail
  refine (within_anyF _ _ _ _).mono ?_
  rw [D2.out]
  rintro _ w1 ⟨rfl, rfl⟩
  by_cases hf : n = 4
  · have HF := Lib.hid (show (s.row s.act).length = 4 by rw [← HN.out]; exact hf)
    have HX := Lib.hid (show s.write (p, v) = s.next.down (p, v) by unfold Fl.write; rw [if_pos HF.out])
    subst hf
    go_wp2_with fail
    go_quiet (fail)
    have HSD := Lib.hid (HS.out.drewN nq)
    have HBD := Lib.hid (below_drewN hb1 nq)
    have HKD := Lib.hid (KeptF.of_below g (below_drewN' w nq))
    go_wp2_with fail
    refine (next_walk _ B base g s HSD.out HOK.out HF.out HM.out).mono ?_
    rintro _ w2 ⟨rfl, h2, hb2, hk2⟩
    have HS2 := Lib.hid h2
    have HB2 := Lib.hid (HBD.out.trans hb2)
    have HK2 := Lib.hid (HKD.out.trans hk2)
    clear h2 hb2 hk2
    go_wp2_with fail
    refine (down_walk _ B base g s.next (p, v) HS2.out hp (by have := (HOK.out.next HF.out).2.1; omega)).mono ?_
    rintro _ w3 ⟨rfl, h3, hb3, hk3⟩
    have HS3 := Lib.hid h3
    have HB3 := Lib.hid (HB2.out.trans hb3)
    have HK3 := Lib.hid (HK2.out.trans hk3)
    clear h3 hb3 hk3
    go_wp2_with fail
    go_ret
    exact ⟨rfl, by rw [HX.out]; exact HS3.out, HB3.out, HK3.out⟩
  · have HX := Lib.hid (show s.write (p, v) = s.down (p, v) by unfold Fl.write; rw [if_neg (by rw [← HN.out]; exact hf)])
    have q1 : ((n : Int) == 4) = false := beq_eq_false_iff_ne.2 (by omega)
    clear hf
    go_wp2_with fail
    go_quiet (fail)
    have HSD := Lib.hid (HS.out.drewN nq)
    have HBD := Lib.hid (below_drewN hb1 nq)
    have HKD := Lib.hid (KeptF.of_below g (below_drewN' w nq))
    go_wp2_with fail
    refine (down_walk _ B base g s (p, v) HSD.out hp (by rw [← HN.out]; omega)).mono ?_
    rintro _ w3 ⟨rfl, h3, hb3, hk3⟩
    have HS3 := Lib.hid h3
    have HB3 := Lib.hid (HBD.out.trans hb3)
    have HK3 := Lib.hid (HKD.out.trans hk3)
    clear h3 hb3 hk3
    go_wp2_with fail
    go_ret
    exact ⟨rfl, by rw [HX.out]; exact HS3.out, HB3.out, HK3.out⟩

def f1 : Fl := Fl.new.write (1, 5)
def f2 : Fl := f1.write (1, 6)
theorem f1_ok : Ok f1 := (Fl.new_ok.write (by decide)).1
theorem f2_ok : Ok f2 := (f1_ok.write (by decide)).1
theorem f2_val : f2.val 1 = 6 := by decide
theorem f2_row : (f2.row 0).length = 2 := by decide
theorem f2_live : (f2.live 0).length = 1 := by decide
theorem f2_times : f2.times 0 = 0 := by decide
theorem new_times (b : Nat) : Fl.new.times b ≤ 999999 := by
  unfold Fl.times Fl.new
  simp only [List.getElem?_replicate]
  split <;> simp
theorem f1_times (b : Nat) : f1.times b ≤ 999999 := by
  have : f1.er = Fl.new.er := rfl
  unfold Fl.times
  rw [this]
  exact new_times b

set_option maxHeartbeats 1000000 in
theorem ffact_walk (W : World) : Calls Try.prog 14 #[] W fun e w' => e = .returned (.bool true) ∧ Below W.heap.size W w' := by
  go_enter Try.func14, Try.ntmps14
  go_wp2_with fail
  refine (fnew_walk _).mono ?_
  rintro _ w1 ⟨rfl, hs, hb⟩
  obtain ⟨g, hg⟩ : ∃ g, g = W.heap.size := ⟨_, rfl⟩
  rw [← hg] at hs ⊢
  have HS1 := Lib.hid hs
  have HB1 := Lib.hid hb
  rw [← hg] at HB1
  have HG := Lib.hid hg
  clear hs hb hg
  go_wp2_with fail
  refine (fwrite_walk _ g (g + 1) g Fl.new 1 5 HS1.out Fl.new_ok (by decide) (by decide) new_times).mono ?_
  rintro _ w2 ⟨rfl, hs, hb, -⟩
  have HS2 := Lib.hid (show FlashIs w2 g (g + 1) g f1 from hs)
  have HB2 := Lib.hid (HB1.out.trans hb)
  clear hs hb
  go_wp2_with fail
  refine (fwrite_walk _ g (g + 1) g f1 1 6 HS2.out f1_ok (by decide) (by decide) f1_times).mono ?_
  rintro _ w3 ⟨rfl, hs, hb, -⟩
  have HS3 := Lib.hid (show FlashIs w3 g (g + 1) g f2 from hs)
  have HB3 := Lib.hid (HB2.out.trans hb)
  clear hs hb
  go_wp2_with fail
  refine (read_walk _ g (g + 1) g f2 1 HS3.out f2_ok (by decide)).mono ?_
  rw [f2_val]
  rintro _ w4 ⟨rfl, hb⟩
  have HS4 := Lib.hid (HS3.out.below hb)
  have HB4 := Lib.hid (HB3.out.trans (hb.mono (by have := HS3.out.lo; omega)))
  clear hb
  go_wp2_with fail
  refine (block_walk _ g (g + 1) g f2 0 HS4.out f2_ok (by decide)).mono ?_
  rw [f2_row, f2_live, f2_times]
  rintro _ w5 ⟨rfl, hb⟩
  have HB5 := Lib.hid (HB4.out.trans (hb.mono (by have := HS4.out.lo; omega)))
  clear hb
  go_wp2_with fail
  go_ret
  exact ⟨rfl, by rw [← HG.out]; exact HB5.out⟩

end Go.Proofs.Ytglcljeeigilnaa
