/- The walks of slices.Max and wear.Gap. -/
import Derived.Test.YtgiehdlkgjmojaaDoorWear1
namespace Go.Proofs.YtgiehdlkgjmojaaDoor
open Go.RowKit Wear

set_option maxHeartbeats 400000 in
theorem max_any (va : Value) (xs : List Int) (w : World) (ha : HasInts w va xs) (h0 : 0 < xs.length) :
    Calls Tryd.prog 48 #[va] w fun e w' => (∃ m, e = .returned (.int .i64 m) ∧ IsMax xs m) ∧ w = w' := by
  obtain ⟨a, capa, rfl, la1, la2, hca⟩ := ha
  unfold maxLen at la2
  have la : xs.length ≤ 9223372036854775807 := by omega
  clear la1 la2
  obtain ⟨ab, ao, rfl, hab, hac⟩ := hca h0
  obtain ⟨n, hn⟩ : ∃ n, n = xs.length := ⟨_, rfl⟩
  obtain ⟨x0, hx0⟩ : ∃ x, xs[0]? = some x := ⟨_, List.getElem?_eq_getElem h0⟩
  have h0c := hac 0 x0 hx0
  simp only [Nat.add_zero] at h0c
  have F0 := Lib.hid (IsMax.first hx0)
  rw [← hn] at la h0 ⊢
  have HN := Lib.hid hn
  have HAC := Lib.hid hac
  clear hn hac hca hx0
  go_enter Tryd.func48, Tryd.ntmps48
  go_wp2
  go_loop [3, 4] (fun u i => ∃ k m, k ≤ n ∧ i = .int .i64 (k : Nat) ∧ u = .int .i64 m ∧ IsMax (xs.take k) m) (fun _ i => n - (intOf i).toNat)
  case atStart => exact ⟨1, x0, by omega, rfl, rfl, F0.out⟩
  case round =>
    obtain ⟨k, m, hk, rfl, rfl, hm⟩ := hrel
    have HM := Lib.hid hm
    clear hm
    by_cases hlt : k < n
    · obtain ⟨x, hx⟩ : ∃ x, xs[k]? = some x := ⟨_, List.getElem?_eq_getElem (by have := HN.out; omega)⟩
      have hxc := HAC.out k x hx
      have HX := Lib.hid hx
      clear hx h0c
      by_cases hle : m < x
      · go_wp2
        all_goals
          go_round
          case rel => exact ⟨k + 1, _, by omega, by go_num, rfl, by first | exact HM.out.turn HX.out (by omega) | exact HM.out.keep HX.out (by omega)⟩
          case measure => simp [intOf]; omega
      · have hxm : x ≤ m := by omega
        go_wp2
        all_goals
          go_round
          case rel => exact ⟨k + 1, _, by omega, by go_num, rfl, by first | exact HM.out.keep HX.out (by omega) | exact HM.out.turn HX.out (by omega)⟩
          case measure => simp [intOf]; omega
    · go_wp2
      go_ret
      refine ⟨⟨m, rfl, ?_⟩, rfl⟩
      have := HM.out
      rw [List.take_of_length_le (by have := HN.out; omega)] at this
      exact this

theorem code_ok' {xs : List Int} (h : codeOf xs = 0) : 0 < xs.length ∧ xs.length ≤ 16 ∧ ∀ x ∈ xs, 0 ≤ x ∧ x ≤ 1000 := by
  unfold codeOf at h
  split at h
  · omega
  · rename_i h'
    split at h
    · omega
    · split at h
      · exact ⟨List.length_pos_iff.2 h', by omega, by assumption⟩
      · omega

set_option maxHeartbeats 400000 in
theorem gap_any (va : Value) (xs : List Int) (w : World) (ha : HasInts w va xs) (hc : codeOf xs = 0) :
    Calls Tryd.prog 30 #[va] w fun e w' => (∃ a b, e = .returned (.tuple #[.int .i64 (b - a), .nilIface]) ∧ IsMin xs a ∧ IsMax xs b) ∧ w = w' := by
  have HA := Lib.hid ha
  obtain ⟨h1, h2, h3⟩ := code_ok' hc
  have HX := Lib.hid h3
  obtain ⟨a, cap, rfl, -, -, -⟩ := ha
  have HC := Lib.hid hc
  clear hc h3
  go_enter Tryd.func30, Tryd.ntmps30
  go_wp2_with fail
  refine (check_any _ xs _ HA.out).mono ?_
  rw [HC.out]
  rintro e w' ⟨rfl, rfl⟩
  simp only [errW, if_true]
  go_wp2_with fail
  refine (max_any _ xs _ HA.out h1).mono ?_
  rintro e w' ⟨⟨b, rfl, hb⟩, rfl⟩
  have HB := Lib.hid hb
  have hb1 := (HX.out b hb.1).1
  have hb2 := (HX.out b hb.1).2
  clear hb
  go_wp2_with fail
  refine (min_any _ xs _ HA.out h1).mono ?_
  rintro e w' ⟨⟨a', rfl, ha⟩, rfl⟩
  have HA' := Lib.hid ha
  have ha1 := (HX.out a' ha.1).1
  have ha2 := (HX.out a' ha.1).2
  clear ha
  go_wp2_with fail
  go_ret2
  exact ⟨⟨a', b, rfl, HA'.out, HB.out⟩, rfl⟩

set_option maxHeartbeats 400000 in
theorem gap_bad (va : Value) (xs : List Int) (c : Int) (w : World) (ha : HasInts w va xs) (hc0 : c ≠ 0) (hc : codeOf xs = c) :
    Calls Tryd.prog 30 #[va] w fun e w' => e = .returned (.tuple #[.int .i64 0, .iface 63 (.int .i64 c)]) ∧ w = w' := by
  have HA := Lib.hid ha
  obtain ⟨a, cap, rfl, -, -, -⟩ := ha
  have HK := Lib.hid (show errW (codeOf xs) = .iface 63 (.int .i64 c) from by unfold errW; rw [hc, if_neg hc0])
  clear hc hc0
  go_enter Tryd.func30, Tryd.ntmps30
  go_wp2_with fail
  refine (check_any _ xs _ HA.out).mono ?_
  rw [HK.out]
  rintro e w' ⟨rfl, rfl⟩
  go_wp2_with fail
  go_ret2
  exact ⟨rfl, rfl⟩

end Go.Proofs.YtgiehdlkgjmojaaDoor
