/- The walk of SnapTurn. -/
import Derived.Test.YtgiehdlkgjmojaaDoorSnapFact
import Derived.Test.YtgiehdlkgjmojaaDoorHas
import Derived.Test.YtgiehdlkgjmojaaDoorReadRows
namespace Go.Proofs.YtgiehdlkgjmojaaDoor
open Go.RowKit

theorem law_inS (a b c : Int) (w : World) :
    Calls Tryd.prog 22 #[.int .i64 a, .int .i64 b, .int .i64 c] w fun e w' => e = .returned (.bool (decide (b ≤ a ∧ a ≤ c))) ∧ w = w' := by
  by_cases h1 : b ≤ a
  · have q1 : decide (b ≤ a) = true := decide_eq_true h1
    by_cases h2 : a ≤ c
    · have q2 : decide (a ≤ c) = true := decide_eq_true h2
      go_enter Tryd.func22, Tryd.ntmps22
      go_wp2
      go_ret
      exact ⟨by simp [h1, h2], rfl⟩
    · have q2 : decide (a ≤ c) = false := decide_eq_false h2
      go_enter Tryd.func22, Tryd.ntmps22
      go_wp2
      go_ret
      exact ⟨by simp, rfl⟩
  · have q1 : decide (b ≤ a) = false := decide_eq_false h1
    go_enter Tryd.func22, Tryd.ntmps22
    go_wp2
    go_ret
    exact ⟨by simp, rfl⟩

/-- behind Drop no number that can be has a snapshot -/
theorem DropRel.gone {s s' : Vol} {k n : Int} {ev : Value} (h : DropRel s s' k n ev) (j : Nat) (hj : k = j) (h4 : j < 4) : s'.b j = false := by
  rcases h with ⟨-, i, hi, -, -, rfl, -⟩ | ⟨c, -, rfl, -, ⟨-, h5⟩ | ⟨-, i, hi, -, hb⟩⟩
  · have : i = j := by omega
    subst this
    simp [Vol.setP]
  · omega
  · have : i = j := by omega
    subst this
    exact hb
theorem SnapRel.made {s s' : Vol} {k : Int} {ev : Value} (h : SnapRel s s' k ev) (hs : ∀ j : Nat, k = j → j < 4 → s.b j = false) :
    (∃ j : Nat, k = j ∧ j < 4 ∧ ev = .nilIface ∧ s'.p j = s.now ∧ s'.b j = true) ∨ (∃ c : Int, ev = .iface 63 (.int .i64 c) ∧ ¬ (0 ≤ k ∧ k ≤ 3)) := by
  rcases h with ⟨h, j, hk, hj, -, rfl⟩ | ⟨c, h, -, ⟨-, h5⟩ | ⟨-, j, hk, hj, hb⟩⟩
  · exact .inl ⟨j, hk, hj, h, by simp [Vol.setP], by simp [Vol.setP]⟩
  · exact .inr ⟨c, h, h5⟩
  · rw [hs j hk hj] at hb
    cases hb
theorem TakeRel.keep {s s' : Vol} {n : Nat} {ev : Value} (h : TakeRel s s' n ev) (k : Nat) : s'.p k = s.p k ∧ s'.b k = s.b k := by
  rcases h with ⟨-, -, -, rfl⟩ | ⟨-, -, -, rfl⟩ <;> exact ⟨rfl, rfl⟩
theorem LeaveRel.keep {s s' : Vol} {i : Int} {ev : Value} (h : LeaveRel s s' i ev) (k : Nat) : s'.p k = s.p k ∧ s'.b k = s.b k := by
  rcases h with ⟨-, j, -, -, -, rfl⟩ | ⟨c, -, rfl, -⟩ <;> exact ⟨rfl, rfl⟩
theorem TurnRel.made {s s' : Vol} {k : Nat} {ev : Value} (h : TurnRel s s' k ev) (h4 : k < 4) (hb : s.b k = true) : ev = .nilIface ∧ s'.now = s.p k ∧ s'.p k = s.p k := by
  rcases h with ⟨h, j, hk, -, -, rfl⟩ | ⟨c, h, -, ⟨-, h5⟩ | ⟨-, j, hk, hj, hb'⟩⟩
  · have : j = k := by omega
    subst this
    exact ⟨h, rfl, rfl⟩
  · omega
  · have : j = k := by omega
    subst this
    rw [hb] at hb'
    cases hb'

structure TurnedRel (W wr : World) (g : Nat) (k P : Nat) (want : Value) : Prop where
  vol : ∃ s, VolIs wr g s ∧ s.p k = P ∧ s.b k = true
  reads : HasInts wr want (bitsOf P)
  below : Below W.heap.size W wr

set_option maxHeartbeats 2000000 in
theorem turns_walk (v0 : Value) (k0 : Int) (v2 : Value) (W : World) {rs ms : List (List Int)} (hr0 : RowsArg W v0 rs) (_hk : -9223372036854775808 ≤ k0 ∧ k0 ≤ 9223372036854775807) (hm0 : RowsArg W v2 ms) (hT : Tabled W) :
    Calls Tryd.prog 5 #[v0, .int .i64 k0, v2] W fun e w' => e = .returned (.bool true) ∧ Below W.heap.size W w' := by
  have hr := hr0.1
  have hm := hm0.1
  clear hr0 hm0
  have HR := Lib.hid hr
  have HM := Lib.hid hm
  have HT := Lib.hid hT
  obtain ⟨a, cap, rfl, hc1, hc2, -⟩ := hm
  clear hT hr
  obtain ⟨n, hn⟩ : ∃ n, n = ms.length := ⟨_, rfl⟩
  rw [← hn] at hc1 ⊢
  have HN := Lib.hid hn
  unfold maxLen at hc2
  clear hn
  go_enter Tryd.func5, Tryd.ntmps5
  go_wp2_with fail
  refine (snapFact_walk _ HT.out).mono ?_
  rintro _ w1 ⟨rfl, hb⟩
  have HB1 := Lib.hid hb
  clear hb
  go_wp2_with fail
  refine (planed_walk _ rs _ (HR.out.below HB1.out) (HT.out.below HB1.out)).mono ?_
  rintro _ w2 ⟨g, rfl, hg, ⟨s, hv⟩, hb⟩
  have HB2 := Lib.hid (HB1.out.trans (hb.mono HB1.out.size))
  have hgw : W.heap.size ≤ g := Nat.le_trans HB1.out.size hg
  have HV2 := Lib.hid hv
  clear hb hv hg
  go_wp2_with fail
  refine (drop_any g s k0 _ HV2.out).mono ?_
  rintro _ w3 ⟨n3, ev3, s3, rfl, hd, hv3, hg3⟩
  have HV3 := Lib.hid hv3
  have HD := Lib.hid hd.gone
  have HB3 := Lib.hid (below_grown_some HB2.out hgw hg3)
  clear hv3 hg3 hd
  go_wp2_with fail
  refine (now_walk g s3 _ HV3.out).mono ?_
  rintro _ w4 ⟨⟨want, rfl, hwant, hap⟩, hb4⟩
  have HW4 := Lib.hid hwant
  have HAP := Lib.hid hap
  have HV4 := Lib.hid (HV3.out.below hb4)
  have HB4 := Lib.hid (HB3.out.trans (hb4.mono HB3.out.size))
  clear hwant hap hb4
  go_wp2_with fail
  refine (snap_any g s3 k0 _ HV4.out).mono ?_
  rintro _ w5 ⟨ev5, s5, rfl, hs5, hv5, hg5⟩
  have HB5 := Lib.hid (below_grown_some HB4.out hgw hg5)
  have HV5 := Lib.hid hv5
  have HW5 := Lib.hid (HW4.out.keptBut hg5 HAP.out)
  have hd5 := hs5.made HD.out
  clear hv5 hg5 hs5
  rcases hd5 with ⟨k, rfl, hk4, rfl, hp, hbk⟩ | ⟨c, rfl, hbad⟩
  · obtain ⟨P, hP⟩ : ∃ P, P = s3.now := ⟨_, rfl⟩
    rw [← hP] at hp HW5
    have HP := Lib.hid hp
    have HBK := Lib.hid hbk
    clear hp hbk hP HD HW4
    go_wp2_with fail
    go_loopw [10] (fun i wr => ∃ j : Nat, j ≤ n ∧ j ≤ 60 ∧ i = .int .i64 j ∧ TurnedRel W wr g k P want) (fun i _ => 60 - (intOf i).toNat)
    case atStart => exact ⟨0, by omega, by omega, rfl, ⟨_, HV5.out, HP.out, HBK.out⟩, HW5.out, HB5.out⟩
    case round =>
      obtain ⟨j, hj, hj60, rfl, ⟨s, hv, hs, hbs⟩, hw, hb⟩ := hrel
      have HV := Lib.hid hv
      have HS := Lib.hid hs
      have HBS := Lib.hid hbs
      have HWR := Lib.hid hw
      have HB := Lib.hid hb
      clear hv hs hw hb hbs
      by_cases hgo : j < n ∧ j < 60
      · obtain ⟨hlt, h60⟩ := hgo
        have q1 : decide (j < n) = true := decide_eq_true hlt
        have q2 : decide ((j : Int) < 60) = true := decide_eq_true (by omega)
        obtain ⟨r, hr⟩ : ∃ r, ms[j]? = some r := ⟨_, List.getElem?_eq_getElem (by have := HN.out; omega)⟩
        obtain ⟨a', cap', h1, -, -, h4⟩ := HM.out.below HB.out
        cases h1
        obtain ⟨b, off, rfl, hbl, hcell⟩ := h4 (by have := HN.out; omega)
        obtain ⟨rv, hrc, hri⟩ := hcell j r hr
        clear hcell h4 hr
        obtain ⟨ar, cr, rfl, hcr1, hcr2, hcr⟩ := hri
        by_cases hone : r.length = 1
        · obtain ⟨x, rfl⟩ : ∃ x, r = [x] := List.length_eq_one_iff.1 hone
          simp only [List.length_cons, List.length_nil, Nat.zero_add] at hrc
          obtain ⟨br, orr, rfl, hbr, hcx⟩ := hcr (by simp)
          have hx := hcx 0 x rfl
          simp only [Nat.add_zero] at hx
          clear hcr hcx hone
          go_wp2_with fail
          refine (leave_any g s x _ HV.out).mono ?_
          rintro _ w6 ⟨ev, s', rfl, hrel', hv6, hg6⟩
          have HS6 := Lib.hid ((hrel'.keep k).1.trans HS.out)
          have HBS6 := Lib.hid ((hrel'.keep k).2.trans HBS.out)
          have HW6 := Lib.hid (HWR.out.keptBut hg6 HAP.out)
          have HV6 := Lib.hid hv6
          have HB6 := Lib.hid (below_grown_some HB.out hgw hg6)
          clear hv6 hg6 hrel'
          go_wp2_with fail
          go_roundw
          case rel => exact ⟨j + 1, by omega, by omega, by go_num, ⟨_, HV6.out, HS6.out, HBS6.out⟩, HW6.out, HB6.out⟩
          case measure => simp [intOf]; omega
        · obtain ⟨m, hm⟩ : ∃ m, m = r.length := ⟨_, rfl⟩
          rw [← hm] at hrc hone
          clear hm hcr1 hcr2 hcr
          have q3 : ((m : Int) == 1) = false := beq_eq_false_iff_ne.2 (by omega)
          clear hone
          go_wp2_with fail
          refine (take_any g s _ HV.out (HT.out.below HB.out)).mono ?_
          rintro _ w6 ⟨n6, ev, s', rfl, hrel', hv6, hg6⟩
          have HS6 := Lib.hid ((hrel'.keep k).1.trans HS.out)
          have HBS6 := Lib.hid ((hrel'.keep k).2.trans HBS.out)
          have HW6 := Lib.hid (HWR.out.keptBut hg6 HAP.out)
          have HV6 := Lib.hid hv6
          have HB6 := Lib.hid (below_grown_some HB.out hgw hg6)
          clear hv6 hg6 hrel'
          go_wp2_with fail
          go_roundw
          case rel => exact ⟨j + 1, by omega, by omega, by go_num, ⟨_, HV6.out, HS6.out, HBS6.out⟩, HW6.out, HB6.out⟩
          case measure => simp [intOf]; omega
      · have q0 : (if decide (j < n) = true then decide ((j : Int) < 60) else false) = false := by
          by_cases h1 : j < n
          · rw [if_pos (decide_eq_true h1)]; exact decide_eq_false (by omega)
          · simp [h1]
        clear hgo
        by_cases hlt : j < n
        · have q1 : decide (j < n) = true := decide_eq_true hlt
          have q2 : decide ((j : Int) < 60) = false := by rw [q1] at q0; simpa using q0
          clear q0
          go_wp2_with fail
          refine (turn_any g s k _ HV.out).mono ?_
          rintro _ w6 ⟨ev, s', rfl, hrel', hv6, hg6⟩
          obtain ⟨rfl, h1, h2⟩ := hrel'.made hk4 HBS.out
          rw [HS.out] at h1 h2
          have H1 := Lib.hid h1
          have H2 := Lib.hid h2
          have HW6 := Lib.hid (HWR.out.keptBut hg6 HAP.out)
          have HV6 := Lib.hid hv6
          have HB6 := Lib.hid (below_grown_some HB.out hgw hg6)
          clear hv6 hg6 hrel' h1 h2
          go_wp2_with fail
          refine (now_walk g s' _ HV6.out).mono ?_
          rw [H1.out]
          rintro _ w7 ⟨⟨u, rfl, hu, -⟩, hb7⟩
          have HU := Lib.hid hu
          have HW7 := Lib.hid (HW6.out.below hb7)
          have HV7 := Lib.hid (HV6.out.below hb7)
          have HB7 := Lib.hid (HB6.out.trans (hb7.mono HB6.out.size))
          clear hu hb7
          go_wp2_with fail
          refine (ints_any _ _ _ _ _ HU.out HW7.out).mono ?_
          rintro _ w8 ⟨rfl, d, rfl⟩
          go_wp2_with fail
          refine (of_walk g s' k _ (HV7.out.drewN d) hk4).mono ?_
          rw [H2.out]
          rintro _ w9 ⟨⟨u', rfl, hu, -⟩, hb9⟩
          have HU9 := Lib.hid hu
          have HW9 := Lib.hid ((HW7.out.drewN d).below hb9)
          have HB9 := Lib.hid ((below_drewN HB7.out d).trans (hb9.mono (below_drewN HB7.out d).size))
          clear hu hb9
          go_wp2_with fail
          refine (ints_any _ _ _ _ _ HU9.out HW9.out).mono ?_
          rintro _ w10 ⟨rfl, d2, rfl⟩
          go_wp2_with fail
          go_ret
          exact ⟨rfl, below_drewN HB9.out d2⟩
        · have q1 : decide (j < n) = false := decide_eq_false hlt
          clear q0
          go_wp2_with fail
          refine (turn_any g s k _ HV.out).mono ?_
          rintro _ w6 ⟨ev, s', rfl, hrel', hv6, hg6⟩
          obtain ⟨rfl, h1, h2⟩ := hrel'.made hk4 HBS.out
          rw [HS.out] at h1 h2
          have H1 := Lib.hid h1
          have H2 := Lib.hid h2
          have HW6 := Lib.hid (HWR.out.keptBut hg6 HAP.out)
          have HV6 := Lib.hid hv6
          have HB6 := Lib.hid (below_grown_some HB.out hgw hg6)
          clear hv6 hg6 hrel' h1 h2
          go_wp2_with fail
          refine (now_walk g s' _ HV6.out).mono ?_
          rw [H1.out]
          rintro _ w7 ⟨⟨u, rfl, hu, -⟩, hb7⟩
          have HU := Lib.hid hu
          have HW7 := Lib.hid (HW6.out.below hb7)
          have HV7 := Lib.hid (HV6.out.below hb7)
          have HB7 := Lib.hid (HB6.out.trans (hb7.mono HB6.out.size))
          clear hu hb7
          go_wp2_with fail
          refine (ints_any _ _ _ _ _ HU.out HW7.out).mono ?_
          rintro _ w8 ⟨rfl, d, rfl⟩
          go_wp2_with fail
          refine (of_walk g s' k _ (HV7.out.drewN d) hk4).mono ?_
          rw [H2.out]
          rintro _ w9 ⟨⟨u', rfl, hu, -⟩, hb9⟩
          have HU9 := Lib.hid hu
          have HW9 := Lib.hid ((HW7.out.drewN d).below hb9)
          have HB9 := Lib.hid ((below_drewN HB7.out d).trans (hb9.mono (below_drewN HB7.out d).size))
          clear hu hb9
          go_wp2_with fail
          refine (ints_any _ _ _ _ _ HU9.out HW9.out).mono ?_
          rintro _ w10 ⟨rfl, d2, rfl⟩
          go_wp2_with fail
          go_ret
          exact ⟨rfl, below_drewN HB9.out d2⟩
  · have D := Lib.hid (decide_eq_false hbad)
    clear hbad HD
    go_wp2_with fail
    refine (law_inS _ _ _ _).mono ?_
    rw [D.out]
    rintro _ w6 ⟨rfl, rfl⟩
    go_wp2_with fail
    go_ret
    exact ⟨rfl, HB5.out⟩

end Go.Proofs.YtgiehdlkgjmojaaDoor
