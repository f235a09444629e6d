/- The walk of DeltaSame. -/
import Derived.Test.YtglcljeeigilnaaDelta4
import Derived.Deep.RegionWith
namespace Go.Proofs.Ytglcljeeigilnaa
open Go.RowKit Delta

theorem HasPieces.of_own0 {w : World} {base : Nat} {e : TypeId} {v : Value} {l : List Pc} (h : w.ownsRow base e 3 v l.length (piecesV l)) : HasPieces w v l := (HasPieces.of_own h).2
theorem own_small {o t : ByteArray} {z : Nat} (hz : 1 ≤ z) (ht : t.size ≤ 2000) {out : List Pc} (h : Delta.Reach o t z (t.size, out)) : ownW out = ownsum out ∧ ownsum out ≤ t.size ∧ ∀ p ∈ out, p.own.size ≤ maxLen := by
  have hb := (h.back hz).own
  simp only at hb
  refine ⟨ownW_small out (by omega), hb, fun p hp => ?_⟩
  have : p.own.size ≤ ownsum out := by
    unfold ownsum
    induction out with
    | nil => simp at hp
    | cons a l ih =>
      simp only [List.map_cons, List.sum_cons]
      simp at hp
      rcases hp with rfl | hp
      · omega
      · have : p.own.size ≤ (l.map fun p => p.own.size).sum := by
          clear ih hb h
          induction l with
          | nil => simp at hp
          | cons a l ih =>
            simp only [List.map_cons, List.sum_cons]
            simp at hp
            rcases hp with rfl | hp
            · omega
            · have := ih hp; omega
        omega
  unfold maxLen
  omega

set_option maxHeartbeats 1000000 in
theorem same_walk (o : ByteArray) (z : Int) (W : World) (ho : o.size ≤ 140737488351232) (_hz : -9223372036854775808 ≤ z ∧ z ≤ 9223372036854775807) :
    Calls Try.prog 3 #[.string o, .int .i64 z] W fun e w' => e = .returned (.bool true) ∧ Below W.heap.size W w' := by
  by_cases hE : delE o o z = 0
  · obtain ⟨h1, h2, h3⟩ : o.size ≤ 2000 ∧ 1 ≤ z ∧ z ≤ 64 := by unfold delE at hE; split at hE <;> (try split at hE) <;> omega
    obtain ⟨n, rfl⟩ : ∃ n : Nat, z = n := ⟨z.toNat, by omega⟩
    have hn1 : 1 ≤ n := by omega
    have hn64 : n ≤ 64 := by omega
    clear hE h2 h3 _hz
    go_enter Try.func3, Try.ntmps3
    go_wp2_with fail
    refine (dfact_any _).mono ?_
    rintro _ w1 ⟨rfl, hb⟩
    have HB1 := Lib.hid hb
    clear hb
    go_wp2_with fail
    refine (make_ok o o n _ h1 h1 hn1 hn64).mono ?_
    rintro _ w2 ⟨v, out, rfl, hr, hown, hb⟩
    have HP := Lib.hid ((HasPieces.of_own0 hown).below (w' := w2.drew) ⟨rfl, rfl, rfl, Nat.le_refl _, fun _ _ => rfl⟩)
    have HB2 := Lib.hid (HB1.out.trans (hb.mono HB1.out.size))
    obtain ⟨e1, e2, e3⟩ := own_small hn1 h1 hr
    have HO := Lib.hid e3
    have HE := Lib.hid (show ownW out = ((o.size % n : Nat) : Int) by rw [e1, hr.same_end hn1])
    obtain ⟨m, hm⟩ : ∃ m, m = o.size % n := ⟨_, rfl⟩
    have hm1 : m < n := by rw [hm]; exact Nat.mod_lt _ (by omega)
    have q1 : (o.size : Int) % (n : Int) = (m : Int) := by rw [hm]; rfl
    have q2 : (o.size : Int).tmod (n : Int) = (m : Int) := by rw [hm]; rfl
    have q3 : IntKind.i64.wrap (m : Int) = (m : Int) := IntWalk.i64_in _ (by omega)
    have q4 : ((n : Int) == 0) = false := beq_eq_false_iff_ne.2 (by omega)
    rw [← hm] at HE
    clear hr hown hb e1 e2 e3 hm
    go_wp2_with fail
    go_region_with ((go_at_call 12; refine (own_any _ out _ HP.out HO.out).mono ?_; rw [HE.out]; rintro _ w3 ⟨rfl, hb3⟩; have HB3 := Lib.hid hb3; clear hb3))
    all_goals
      go_wp2_with fail
      go_ret
      exact ⟨rfl, HB2.out.drew.trans (HB3.out.mono HB2.out.size)⟩
  · go_enter Try.func3, Try.ntmps3
    have HE := Lib.hid hE
    clear hE
    go_wp2_with fail
    refine (dfact_any _).mono ?_
    rintro _ w1 ⟨rfl, hb⟩
    have HB1 := Lib.hid hb
    clear hb
    go_wp2_with fail
    refine (make_no o o z _ ho ho HE.out).mono ?_
    have he : errC (delE o o z) = .iface 63 (.int .i64 (delE o o z)) := by unfold errC; rw [if_neg HE.out]
    rw [he]
    clear he
    rintro _ w2 ⟨rfl, rfl⟩
    go_wp2_with fail
    go_ret
    exact ⟨rfl, HB1.out⟩

end Go.Proofs.Ytglcljeeigilnaa
