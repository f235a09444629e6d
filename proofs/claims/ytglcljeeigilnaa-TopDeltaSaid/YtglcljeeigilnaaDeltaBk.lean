/- The walk of DeltaBack. -/
import Derived.Test.YtglcljeeigilnaaDeltaSm
import Derived.Test.YtglcljeeigilnaaApply
namespace Go.Proofs.Ytglcljeeigilnaa
open Go.RowKit Delta

set_option maxHeartbeats 1000000 in
theorem back_walk (o t : ByteArray) (z : Int) (W : World) (ho : o.size ≤ 140737488351232) (ht : t.size ≤ 140737488351232) (_hz : -9223372036854775808 ≤ z ∧ z ≤ 9223372036854775807) :
    Calls Try.prog 8 #[.string o, .string t, .int .i64 z] W fun e w' => e = .returned (.bool true) ∧ Below W.heap.size W w' := by
  by_cases hE : delE o t z = 0
  · obtain ⟨h1, h1', h2, h3⟩ : o.size ≤ 2000 ∧ t.size ≤ 2000 ∧ 1 ≤ z ∧ z ≤ 64 := by unfold delE at hE; split at hE <;> (try split at hE) <;> omega
    obtain ⟨n, rfl⟩ : ∃ n : Nat, z = n := ⟨z.toNat, by omega⟩
    have hn1 : 1 ≤ n := by omega
    have hn64 : n ≤ 64 := by omega
    clear hE h2 h3 _hz
    go_enter Try.func8, Try.ntmps8
    go_wp2_with fail
    refine (dfact_any _).mono ?_
    rintro _ w1 ⟨rfl, hb⟩
    have HB1 := Lib.hid hb
    clear hb
    go_wp2_with fail
    refine (make_ok o t n _ h1 h1' hn1 hn64).mono ?_
    rintro _ w2 ⟨v, out, rfl, hr, hown, hb⟩
    have HP := Lib.hid (HasPieces.of_own0 hown)
    have HB2 := Lib.hid (HB1.out.trans (hb.mono HB1.out.size))
    obtain ⟨e1, e2, e3⟩ := own_small hn1 h1' hr
    have hbk := hr.back hn1
    have hjoin : joined o out = t := by rw [hbk.join]; exact ext_all t
    have hap : ap o out = (0, t) := by
      rw [ap_good h1 (Nat.le_trans hbk.len h1') hbk.good (by rw [hjoin]; exact h1'), hjoin]
    have HAP := Lib.hid hap
    have HO := Lib.hid e3
    obtain ⟨m, hm⟩ : ∃ m, m = ownsum out := ⟨_, rfl⟩
    have HE := Lib.hid (show ownW out = (m : Int) by rw [e1, hm])
    have hmt : m ≤ t.size := by rw [hm]; exact e2
    have q1 : decide (m ≤ t.size) = true := decide_eq_true hmt
    have HSZ := Lib.hid (show ∀ p ∈ out, p.own.size ≤ 140737488351232 from fun p hp => by
      have : p.own.size ≤ ownsum out := by
        clear hap hjoin hbk e1 e2 e3 hr hown HP HAP HO HE hm
        induction out with
        | nil => simp at hp
        | cons a l ih =>
          simp only [ownsum, List.map_cons, List.sum_cons] at ih ⊢
          simp at hp
          rcases hp with rfl | hp
          · omega
          · have := ih hp; omega
      omega)
    clear hr hown hb e1 e2 e3 hm hbk hjoin hap
    go_wp2_with fail
    refine (apply_any o v out _ (by omega) HP.out HSZ.out).mono ?_
    rw [HAP.out]
    rintro _ w3 ⟨rfl, hb3⟩
    have HB3 := Lib.hid (HB2.out.trans (hb3.mono HB2.out.size))
    have HP3 := Lib.hid (HP.out.below hb3)
    clear hb3
    have he0 : errC (0 : Int) = .nilIface := rfl
    go_wp2_with fail
    refine (own_any v out _ HP3.out HO.out).mono ?_
    rw [HE.out]
    rintro _ w4 ⟨rfl, hb4⟩
    have HB4 := Lib.hid (HB3.out.trans (hb4.mono HB3.out.size))
    clear hb4
    go_wp2_with fail
    go_ret
    exact ⟨rfl, HB4.out⟩
  · have HE := Lib.hid hE
    clear hE
    go_enter Try.func8, Try.ntmps8
    go_wp2_with fail
    refine (dfact_any _).mono ?_
    rintro _ w1 ⟨rfl, hb⟩
    have HB1 := Lib.hid hb
    clear hb
    go_wp2_with fail
    refine (make_no o t z _ ho ht HE.out).mono ?_
    have he : errC (delE o t z) = .iface 63 (.int .i64 (delE o t z)) := by unfold errC; rw [if_neg HE.out]
    rw [he]
    clear he
    rintro _ w2 ⟨rfl, rfl⟩
    go_wp2_with fail
    go_ret
    exact ⟨rfl, HB1.out⟩

end Go.Proofs.Ytglcljeeigilnaa
