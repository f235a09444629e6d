/- The walk of SnapKeeps. -/
import Derived.Test.YtgiehdlkgjmojaaDoorSnapFact
import Derived.Test.YtgiehdlkgjmojaaDoorHas
import Derived.Test.YtgiehdlkgjmojaaDoorReadRows
namespace Go.Proofs.YtgiehdlkgjmojaaDoor
open Go.RowKit

structure KeepRel (W wr : World) (g : Nat) (k : Int) (want : Value) (L : List Int) : Prop where
  vol : ∃ s, VolIs wr g s ∧ ofList s k = L
  reads : HasInts wr want L
  below : Below W.heap.size W wr

set_option maxHeartbeats 2000000 in
theorem keeps_walk (v0 : Value) (k : Int) (v2 : Value) (W : World) {rs ms : List (List Int)} (hr0 : RowsArg W v0 rs) (_hk : -9223372036854775808 ≤ k ∧ k ≤ 9223372036854775807) (hm0 : RowsArg W v2 ms) (hT : Tabled W) :
    Calls Tryd.prog 4 #[v0, .int .i64 k, v2] W fun e w' => e = .returned (.bool true) ∧ Below W.heap.size W w' := by
  have hr := hr0.1
  have hm := hm0.1
  clear hr0 hm0
  have HR := Lib.hid hr
  have HM := Lib.hid hm
  have HT := Lib.hid hT
  obtain ⟨a, cap, rfl, hc1, hc2, -⟩ := hm
  clear hT hr
  obtain ⟨n, hn⟩ : ∃ n, n = ms.length := ⟨_, rfl⟩
  rw [← hn] at hc1 ⊢
  have HN := Lib.hid hn
  unfold maxLen at hc2
  clear hn
  go_enter Tryd.func4, Tryd.ntmps4
  go_wp2_with fail
  refine (snapFact_walk _ HT.out).mono ?_
  rintro _ w1 ⟨rfl, hb⟩
  have HB1 := Lib.hid hb
  clear hb
  go_wp2_with fail
  refine (planed_walk _ rs _ (HR.out.below HB1.out) (HT.out.below HB1.out)).mono ?_
  rintro _ w2 ⟨g, rfl, hg, ⟨s, hv⟩, hb⟩
  have HB2 := Lib.hid (HB1.out.trans (hb.mono HB1.out.size))
  have hgw : W.heap.size ≤ g := Nat.le_trans HB1.out.size hg
  have HV2 := Lib.hid hv
  clear hb hv hg
  go_wp2_with fail
  refine (snap_any g s k _ HV2.out).mono ?_
  rintro _ w3 ⟨ev, s3, rfl, -, hv3, hg3⟩
  have HV3 := Lib.hid hv3
  have HB3 := Lib.hid (below_grown_some HB2.out hgw hg3)
  clear hv3 hg3
  go_wp2_with fail
  refine (of_any g s3 k _ HV3.out).mono ?_
  rintro _ w4 ⟨⟨want, rfl, hwant, hap⟩, hb4⟩
  have HW := Lib.hid hwant
  have HAP := Lib.hid hap
  have HV4 := Lib.hid (HV3.out.below hb4)
  have HB4 := Lib.hid (HB3.out.trans (hb4.mono HB3.out.size))
  obtain ⟨L, hL⟩ : ∃ L, L = ofList s3 k := ⟨_, rfl⟩
  have HL := Lib.hid hL
  clear hwant hap hb4 hL
  go_wp2_with fail
  go_loopw [10] (fun i wr => ∃ j : Nat, j ≤ n ∧ j ≤ 60 ∧ i = .int .i64 j ∧ KeepRel W wr g k want L) (fun i _ => 60 - (intOf i).toNat)
  case atStart => exact ⟨0, by omega, by omega, rfl, ⟨_, HV4.out, HL.out.symm⟩, HL.out ▸ HW.out, HB4.out⟩
  case round =>
    obtain ⟨j, hj, hj60, rfl, ⟨s, hv, hs⟩, hw, hb⟩ := hrel
    have HV := Lib.hid hv
    have HS := Lib.hid hs
    have HWR := Lib.hid hw
    have HB := Lib.hid hb
    clear hv hs hw hb
    by_cases hlt : j < n
    · have q1 : decide (j < n) = true := decide_eq_true hlt
      by_cases h60 : j < 60
      · have q2 : decide ((j : Int) < 60) = true := decide_eq_true (by omega)
        obtain ⟨r, hr⟩ : ∃ r, ms[j]? = some r := ⟨_, List.getElem?_eq_getElem (by have := HN.out; omega)⟩
        obtain ⟨a', cap', h1, -, -, h4⟩ := HM.out.below HB.out
        cases h1
        obtain ⟨b, off, rfl, hbl, hcell⟩ := h4 (by have := HN.out; omega)
        obtain ⟨rv, hrc, hri⟩ := hcell j r hr
        clear hcell h4 hr
        obtain ⟨ar, cr, rfl, hcr1, hcr2, hcr⟩ := hri
        by_cases hone : r.length = 1
        · obtain ⟨x, rfl⟩ : ∃ x, r = [x] := List.length_eq_one_iff.1 hone
          simp only [List.length_cons, List.length_nil, Nat.zero_add] at hrc
          obtain ⟨br, orr, rfl, hbr, hcx⟩ := hcr (by simp)
          have hx := hcx 0 x rfl
          simp only [Nat.add_zero] at hx
          clear hcr hcx hone
          go_wp2_with fail
          refine (leave_any g s x _ HV.out).mono ?_
          rintro _ w5 ⟨ev, s', rfl, hrel', hv5, hg5⟩
          have HS5 := Lib.hid ((hrel'.of k).trans HS.out)
          have HW5 := Lib.hid (HWR.out.keptBut hg5 HAP.out)
          have HV5 := Lib.hid hv5
          have HB5 := Lib.hid (below_grown_some HB.out hgw hg5)
          clear hv5 hg5 hrel'
          go_wp2_with fail
          refine (of_any g s' k _ HV5.out).mono ?_
          rw [HS5.out]
          rintro _ w6 ⟨⟨u, rfl, hu, -⟩, hb6⟩
          have HU := Lib.hid hu
          have HW6 := Lib.hid (HW5.out.below hb6)
          have HV6 := Lib.hid (HV5.out.below hb6)
          have HB6 := Lib.hid (HB5.out.trans (hb6.mono HB5.out.size))
          clear hu hb6
          go_wp2_with fail
          refine (ints_any _ _ _ _ _ HU.out HW6.out).mono ?_
          rintro _ w7 ⟨rfl, d, rfl⟩
          go_wp2_with fail
          go_roundw
          case rel => exact ⟨j + 1, by omega, by omega, by go_num, ⟨_, HV6.out.drewN d, HS5.out⟩, HW6.out.drewN d, below_drewN HB6.out d⟩
          case measure => simp [intOf]; omega
        · obtain ⟨m, hm⟩ : ∃ m, m = r.length := ⟨_, rfl⟩
          rw [← hm] at hrc hone
          clear hm hcr1 hcr2 hcr
          have q3 : ((m : Int) == 1) = false := beq_eq_false_iff_ne.2 (by omega)
          clear hone
          go_wp2_with fail
          refine (take_any g s _ HV.out (HT.out.below HB.out)).mono ?_
          rintro _ w5 ⟨n5, ev, s', rfl, hrel', hv5, hg5⟩
          have HS5 := Lib.hid ((hrel'.of k).trans HS.out)
          have HW5 := Lib.hid (HWR.out.keptBut hg5 HAP.out)
          have HV5 := Lib.hid hv5
          have HB5 := Lib.hid (below_grown_some HB.out hgw hg5)
          have hcase : (ev = .nilIface ∧ (n5 : Int) ∉ L) ∨ ev = .iface 63 (.int .i64 4) := by
            by_cases he : ev = .nilIface
            · subst he
              left
              refine ⟨rfl, ?_⟩
              rw [← HS.out]
              exact hrel'.new HV.out.ok k
            · rcases hrel' with ⟨h, -⟩ | ⟨h, -⟩
              · exact absurd h he
              · exact .inr h
          clear hv5 hg5 hrel'
          rcases hcase with ⟨rfl, hnot⟩ | rfl
          · have D := Lib.hid (decide_eq_false hnot)
            clear hnot
            go_wp2_with fail
            refine (has_any _ L _ _ HW5.out).mono ?_
            rw [D.out]
            rintro _ w6 ⟨rfl, rfl⟩
            go_wp2_with fail
            refine (of_any g s' k _ HV5.out).mono ?_
            rw [HS5.out]
            rintro _ w6 ⟨⟨u, rfl, hu, -⟩, hb6⟩
            have HU := Lib.hid hu
            have HW6 := Lib.hid (HW5.out.below hb6)
            have HV6 := Lib.hid (HV5.out.below hb6)
            have HB6 := Lib.hid (HB5.out.trans (hb6.mono HB5.out.size))
            clear hu hb6
            go_wp2_with fail
            refine (ints_any _ _ _ _ _ HU.out HW6.out).mono ?_
            rintro _ w7 ⟨rfl, d, rfl⟩
            go_wp2_with fail
            go_roundw
            case rel => exact ⟨j + 1, by omega, by omega, by go_num, ⟨_, HV6.out.drewN d, HS5.out⟩, HW6.out.drewN d, below_drewN HB6.out d⟩
            case measure => simp [intOf]; omega
          · go_wp2_with fail
            refine (of_any g s' k _ HV5.out).mono ?_
            rw [HS5.out]
            rintro _ w6 ⟨⟨u, rfl, hu, -⟩, hb6⟩
            have HU := Lib.hid hu
            have HW6 := Lib.hid (HW5.out.below hb6)
            have HV6 := Lib.hid (HV5.out.below hb6)
            have HB6 := Lib.hid (HB5.out.trans (hb6.mono HB5.out.size))
            clear hu hb6
            go_wp2_with fail
            refine (ints_any _ _ _ _ _ HU.out HW6.out).mono ?_
            rintro _ w7 ⟨rfl, d, rfl⟩
            go_wp2_with fail
            go_roundw
            case rel => exact ⟨j + 1, by omega, by omega, by go_num, ⟨_, HV6.out.drewN d, HS5.out⟩, HW6.out.drewN d, below_drewN HB6.out d⟩
            case measure => simp [intOf]; omega
      · have q2 : decide ((j : Int) < 60) = false := decide_eq_false (by omega)
        go_wp2_with fail
        go_ret
        exact ⟨rfl, HB.out⟩
    · have q1 : decide (j < n) = false := decide_eq_false hlt
      go_wp2_with fail
      go_ret
      exact ⟨rfl, HB.out⟩

end Go.Proofs.YtgiehdlkgjmojaaDoor
