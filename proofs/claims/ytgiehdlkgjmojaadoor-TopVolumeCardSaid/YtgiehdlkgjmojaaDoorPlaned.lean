/- The walk of planed: a volume with which something was done. -/
import Derived.Test.YtgiehdlkgjmojaaDoorSnapMath
namespace Go.Proofs.YtgiehdlkgjmojaaDoor
open Go.RowKit

theorem below_grown_some {W a b : World} {g : Nat} (h : Below W.heap.size W a) (hg : W.heap.size ≤ g) (k : a.grownBy b (some g)) : Below W.heap.size W b :=
  h.grown k h.size (fun j hj => by cases hj; exact hg)

def PlanedRel (W wr : World) (g : Nat) : Prop := (∃ s, VolIs wr g s) ∧ Below W.heap.size W wr

set_option maxHeartbeats 2000000 in
theorem planed_walk (v : Value) (rs : List (List Int)) (W : World) (hr : HasRows W v rs) (hT : Tabled W) :
    Calls Tryd.prog 18 #[v] W fun e w' => ∃ g, e = .returned (.pointer (some ⟨g, 0, none⟩)) ∧ W.heap.size ≤ g ∧ (∃ s, VolIs w' g s) ∧ Below W.heap.size W w' := by
  have HR := Lib.hid hr
  have HT := Lib.hid hT
  obtain ⟨a, cap, rfl, hc1, hc2, -⟩ := hr
  clear hT
  obtain ⟨n, hn⟩ : ∃ n, n = rs.length := ⟨_, rfl⟩
  rw [← hn] at hc1 ⊢
  have HN := Lib.hid hn
  unfold maxLen at hc2
  clear hn
  go_enter Tryd.func18, Tryd.ntmps18
  go_wp2_with fail
  refine (new_walk _).mono ?_
  rintro _ w1 ⟨rfl, hv, hb⟩
  obtain ⟨g, hg⟩ : ∃ g, g = W.heap.size := ⟨_, rfl⟩
  rw [← hg] at hv ⊢
  have hgw : W.heap.size ≤ g := by omega
  have HV := Lib.hid hv
  have HB := Lib.hid hb
  clear hv hb hg
  go_wp2_with fail
  go_loopw [4, 5] (fun i _ wr => ∃ k : Nat, k ≤ n ∧ k ≤ 60 ∧ i = .int .i64 k ∧ PlanedRel W wr g) (fun i _ _ => 60 - (intOf i).toNat)
  case atStart => exact ⟨0, by omega, by omega, rfl, ⟨_, HV.out⟩, HB.out⟩
  case round =>
    obtain ⟨k, hk, hk60, rfl, ⟨s, hv⟩, hb⟩ := hrel
    have HV := Lib.hid hv
    have HB := Lib.hid hb
    clear hv hb
    by_cases hlt : k < n
    · have q1 : decide (k < n) = true := decide_eq_true hlt
      by_cases h60 : k < 60
      · have q2 : decide ((k : Int) < 60) = true := decide_eq_true (by omega)
        obtain ⟨r, hr⟩ : ∃ r, rs[k]? = some r := ⟨_, List.getElem?_eq_getElem (by have := HN.out; omega)⟩
        obtain ⟨a', cap', h1, -, -, h4⟩ := HR.out.below HB.out
        cases h1
        obtain ⟨b, off, rfl, hbl, hcell⟩ := h4 (by have := HN.out; omega)
        obtain ⟨rv, hrc, hri⟩ := hcell k r hr
        clear hcell h4 hr
        obtain ⟨ar, cr, rfl, hcr1, hcr2, hcr⟩ := hri
        rcases r with _ | ⟨x, _ | ⟨y, _ | ⟨z, r⟩⟩⟩
        · simp only [List.length_nil] at hrc
          clear hcr
          go_wp2_with fail
          refine (take_any g s _ HV.out (HT.out.below HB.out)).mono ?_
          rintro _ w2 ⟨n2, ev, s', rfl, -, hv2, hg2⟩
          have HV2 := Lib.hid hv2
          have HB2 := Lib.hid (below_grown_some HB.out hgw hg2)
          clear hv2 hg2
          go_wp2_with fail
          go_roundw
          case rel => exact ⟨k + 1, by omega, by omega, by go_num, ⟨_, HV2.out⟩, HB2.out⟩
          case measure => simp [intOf]; omega
        · simp only [List.length_cons, List.length_nil, Nat.zero_add] at hrc
          obtain ⟨br, orr, rfl, hbr, hcx⟩ := hcr (by simp)
          have hx := hcx 0 x rfl
          simp only [Nat.add_zero] at hx
          clear hcr hcx
          go_wp2_with fail
          refine (leave_any g s x _ HV.out).mono ?_
          rintro _ w2 ⟨ev, s', rfl, -, hv2, hg2⟩
          have HV2 := Lib.hid hv2
          have HB2 := Lib.hid (below_grown_some HB.out hgw hg2)
          clear hv2 hg2
          go_wp2_with fail
          go_roundw
          case rel => exact ⟨k + 1, by omega, by omega, by go_num, ⟨_, HV2.out⟩, HB2.out⟩
          case measure => simp [intOf]; omega
        · simp only [List.length_cons, List.length_nil, Nat.zero_add] at hrc
          obtain ⟨br, orr, rfl, hbr, hcx⟩ := hcr (by simp)
          have hx := hcx 0 x rfl
          have hy := hcx 1 y rfl
          simp only [Nat.add_zero] at hx
          clear hcr hcx
          by_cases x0 : x = 0
          · have q3 : (x == 0) = true := beq_iff_eq.2 x0
            have X0 := Lib.hid x0
            clear x0
            go_wp2_with fail
            refine (snap_any g s y _ HV.out).mono ?_
            rintro _ w2 ⟨ev, s', rfl, -, hv2, hg2⟩
            have HV2 := Lib.hid hv2
            have HB2 := Lib.hid (below_grown_some HB.out hgw hg2)
            clear hv2 hg2
            go_wp2_with fail
            go_roundw
            case rel => exact ⟨k + 1, by omega, by omega, by go_num, ⟨_, HV2.out⟩, HB2.out⟩
            case measure => simp [intOf]; omega
          · have q3 : (x == 0) = false := beq_eq_false_iff_ne.2 x0
            by_cases x1 : x = 1
            · have q4 : (x == 1) = true := beq_iff_eq.2 x1
              have X0 := Lib.hid x1
              clear x1 x0
              go_wp2_with fail
              refine (drop_any g s y _ HV.out).mono ?_
              rintro _ w2 ⟨n2, ev, s', rfl, -, hv2, hg2⟩
              have HV2 := Lib.hid hv2
              have HB2 := Lib.hid (below_grown_some HB.out hgw hg2)
              clear hv2 hg2
              go_wp2_with fail
              go_roundw
              case rel => exact ⟨k + 1, by omega, by omega, by go_num, ⟨_, HV2.out⟩, HB2.out⟩
              case measure => simp [intOf]; omega
            · have q4 : (x == 1) = false := beq_eq_false_iff_ne.2 x1
              clear x1 x0
              go_wp2_with fail
              refine (turn_any g s y _ HV.out).mono ?_
              rintro _ w2 ⟨ev, s', rfl, -, hv2, hg2⟩
              have HV2 := Lib.hid hv2
              have HB2 := Lib.hid (below_grown_some HB.out hgw hg2)
              clear hv2 hg2
              go_wp2_with fail
              go_roundw
              case rel => exact ⟨k + 1, by omega, by omega, by go_num, ⟨_, HV2.out⟩, HB2.out⟩
              case measure => simp [intOf]; omega
        · clear hcr
          have hlen : 3 ≤ (x :: y :: z :: r).length := by simp
          obtain ⟨m, hm⟩ : ∃ m, m = (x :: y :: z :: r).length := ⟨_, rfl⟩
          rw [← hm] at hrc hlen
          clear hm hcr1 hcr2
          have q5 : ((m : Int) == 0) = false := beq_eq_false_iff_ne.2 (by omega)
          have q6 : ((m : Int) == 1) = false := beq_eq_false_iff_ne.2 (by omega)
          have q7 : ((m : Int) == 2) = false := beq_eq_false_iff_ne.2 (by omega)
          go_wp2_with fail
          go_roundw
          case rel => exact ⟨k + 1, by omega, by omega, by go_num, ⟨_, HV.out⟩, HB.out⟩
          case measure => simp [intOf]; omega
      · have q2 : decide ((k : Int) < 60) = false := decide_eq_false (by omega)
        go_wp2_with fail
        go_ret
        exact ⟨g, rfl, hgw, ⟨s, HV.out⟩, HB.out⟩
    · have q1 : decide (k < n) = false := decide_eq_false hlt
      go_wp2_with fail
      go_ret
      exact ⟨g, rfl, hgw, ⟨s, HV.out⟩, HB.out⟩

end Go.Proofs.YtgiehdlkgjmojaaDoor
