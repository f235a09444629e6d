/- The walks of what wear calls: Min, Index of package slices; the bounds; Check; least. -/
import Derived.Test.YtgiehdlkgjmojaaDoorProg
import Derived.Test.YtgiehdlkgjmojaaDoorBase
import Derived.Test.YtgiehdlkgjmojaaDoorWearMath
namespace Go.Proofs.YtgiehdlkgjmojaaDoor
open Go.RowKit Wear

theorem ret_intW {k : IntKind} {a b : Int} (h : a = b) : Ending.returned (.int k a) = .returned (.int k b) := by rw [h]
theorem ret_boolW {a b : Bool} (h : a = b) : Ending.returned (.bool a) = .returned (.bool b) := by rw [h]

set_option maxHeartbeats 400000 in
theorem min_any (va : Value) (xs : List Int) (w : World) (ha : HasInts w va xs) (h0 : 0 < xs.length) :
    Calls Tryd.prog 49 #[va] w fun e w' => (∃ m, e = .returned (.int .i64 m) ∧ IsMin xs m) ∧ w = w' := by
  obtain ⟨a, capa, rfl, la1, la2, hca⟩ := ha
  unfold maxLen at la2
  have la : xs.length ≤ 9223372036854775807 := by omega
  clear la1 la2
  obtain ⟨ab, ao, rfl, hab, hac⟩ := hca h0
  obtain ⟨n, hn⟩ : ∃ n, n = xs.length := ⟨_, rfl⟩
  obtain ⟨x0, hx0⟩ : ∃ x, xs[0]? = some x := ⟨_, List.getElem?_eq_getElem h0⟩
  have h0c := hac 0 x0 hx0
  simp only [Nat.add_zero] at h0c
  have F0 := Lib.hid (IsMin.first hx0)
  rw [← hn] at la h0 ⊢
  have HN := Lib.hid hn
  have HAC := Lib.hid hac
  clear hn hac hca hx0
  go_enter Tryd.func49, Tryd.ntmps49
  go_wp2
  go_loop [3, 4] (fun u i => ∃ k m, k ≤ n ∧ i = .int .i64 (k : Nat) ∧ u = .int .i64 m ∧ IsMin (xs.take k) m) (fun _ i => n - (intOf i).toNat)
  case atStart => exact ⟨1, x0, by omega, rfl, rfl, F0.out⟩
  case round =>
    obtain ⟨k, m, hk, rfl, rfl, hm⟩ := hrel
    have HM := Lib.hid hm
    clear hm
    by_cases hlt : k < n
    · obtain ⟨x, hx⟩ : ∃ x, xs[k]? = some x := ⟨_, List.getElem?_eq_getElem (by have := HN.out; omega)⟩
      have hxc := HAC.out k x hx
      have HX := Lib.hid hx
      clear hx h0c
      by_cases hle : m ≤ x
      · go_wp2
        all_goals
          go_round
          case rel => exact ⟨k + 1, _, by omega, by go_num, rfl, by first | exact HM.out.keep HX.out hle | exact HM.out.turn HX.out (by omega)⟩
          case measure => simp [intOf]; omega
      · have hxm : x < m := by omega
        go_wp2
        all_goals
          go_round
          case rel => exact ⟨k + 1, _, by omega, by go_num, rfl, by first | exact HM.out.turn HX.out (by omega) | exact HM.out.keep HX.out (by omega)⟩
          case measure => simp [intOf]; omega
    · go_wp2
      go_ret
      refine ⟨⟨m, rfl, ?_⟩, rfl⟩
      have := HM.out
      rw [List.take_of_length_le (by have := HN.out; omega)] at this
      exact this

set_option maxHeartbeats 400000 in
theorem index_any (va : Value) (xs : List Int) (m : Int) (w : World) (ha : HasInts w va xs) (hm : m ∈ xs) :
    Calls Tryd.prog 54 #[va, .int .i64 m] w fun e w' => (∃ i : Nat, e = .returned (.int .i64 (i : Nat)) ∧ xs[i]? = some m ∧ ∀ j x, j < i → xs[j]? = some x → x ≠ m) ∧ w = w' := by
  obtain ⟨a, capa, rfl, la1, la2, hca⟩ := ha
  unfold maxLen at la2
  have la : xs.length ≤ 9223372036854775807 := by omega
  clear la1 la2
  obtain ⟨n, hn⟩ : ∃ n, n = xs.length := ⟨_, rfl⟩
  rw [← hn] at la hca ⊢
  have HN := Lib.hid hn
  have HM := Lib.hid hm
  clear hn hm
  go_enter Tryd.func54, Tryd.ntmps54
  go_wp2
  go_loop [8] (fun i => ∃ k : Nat, k ≤ n ∧ i = .int .i64 (k : Nat) ∧ ∀ j x, j < k → xs[j]? = some x → x ≠ m) (fun i => n - (intOf i).toNat)
  case atStart => exact ⟨0, by omega, rfl, fun j x h => by omega⟩
  case round =>
    obtain ⟨k, hk, rfl, hs⟩ := hrel
    have HS := Lib.hid hs
    clear hs
    by_cases hlt : k < n
    · obtain ⟨b, o, rfl, hb, hac⟩ := hca (by omega)
      obtain ⟨x, hx⟩ : ∃ x, xs[k]? = some x := ⟨_, List.getElem?_eq_getElem (by have := HN.out; omega)⟩
      have hxc := hac k x hx
      have HX := Lib.hid hx
      clear hx hca hac
      by_cases he : x = m
      · subst he
        go_wp2
        go_ret
        exact ⟨⟨k, rfl, HX.out, HS.out⟩, rfl⟩
      · have q1 : (m == x) = false := beq_eq_false_iff_ne.2 (fun h => he h.symm)
        go_wp2
        go_round
        case rel => exact ⟨k + 1, by omega, by go_num, fun j y hj hy => by
          by_cases e : j = k
          · subst e; rw [HX.out] at hy; cases hy; exact he
          · exact HS.out j y (by omega) hy⟩
        case measure => simp [intOf]; omega
    · exfalso
      obtain ⟨j, hj, e⟩ := List.mem_iff_getElem.1 HM.out
      exact HS.out j m (by have := HN.out; omega) (by rw [List.getElem?_eq_getElem hj, e]) rfl

theorem within_any (a b c : Int) (w : World) :
    Calls Tryd.prog 41 #[.int .i64 a, .int .i64 b, .int .i64 c] w fun e w' => e = .returned (.bool (decide (b ≤ a ∧ a ≤ c))) ∧ w = w' := by
  by_cases h1 : b ≤ a
  · have q1 : decide (b ≤ a) = true := decide_eq_true h1
    by_cases h2 : a ≤ c
    · have q2 : decide (a ≤ c) = true := decide_eq_true h2
      go_enter Tryd.func41, Tryd.ntmps41
      go_wp2
      go_ret
      exact ⟨ret_boolW (by simp [h1, h2]), rfl⟩
    · have q2 : decide (a ≤ c) = false := decide_eq_false h2
      go_enter Tryd.func41, Tryd.ntmps41
      go_wp2
      go_ret
      exact ⟨ret_boolW (by simp), rfl⟩
  · have q1 : decide (b ≤ a) = false := decide_eq_false h1
    go_enter Tryd.func41, Tryd.ntmps41
    go_wp2
    go_ret
    exact ⟨ret_boolW (by simp), rfl⟩

set_option maxHeartbeats 400000 in
theorem all_any (va : Value) (xs : List Int) (lo hi : Int) (w : World) (ha : HasInts w va xs) :
    Calls Tryd.prog 45 #[va, .int .i64 lo, .int .i64 hi] w fun e w' => e = .returned (.bool (decide (∀ x ∈ xs, lo ≤ x ∧ x ≤ hi))) ∧ w = w' := by
  obtain ⟨a, capa, rfl, la1, la2, hca⟩ := ha
  unfold maxLen at la2
  have la : xs.length ≤ 9223372036854775807 := by omega
  clear la1 la2
  obtain ⟨n, hn⟩ : ∃ n, n = xs.length := ⟨_, rfl⟩
  rw [← hn] at la hca ⊢
  have HN := Lib.hid hn
  clear hn
  go_enter Tryd.func45, Tryd.ntmps45
  go_wp2_with fail
  go_loop [11] (fun i => ∃ k : Nat, k ≤ n ∧ i = .int .i64 (k : Nat) ∧ ∀ x ∈ xs.take k, lo ≤ x ∧ x ≤ hi) (fun i => n - (intOf i).toNat)
  case atStart => exact ⟨0, by omega, rfl, by simp⟩
  case round =>
    obtain ⟨k, hk, rfl, hs⟩ := hrel
    have HS := Lib.hid hs
    clear hs
    by_cases hlt : k < n
    · obtain ⟨b, o, rfl, hb, hac⟩ := hca (by omega)
      obtain ⟨x, hx⟩ : ∃ x, xs[k]? = some x := ⟨_, List.getElem?_eq_getElem (by have := HN.out; omega)⟩
      have hxc := hac k x hx
      have HX := Lib.hid hx
      clear hx hca hac
      go_wp2_with fail
      refine (within_any _ _ _ _).mono ?_
      obtain ⟨q, hq⟩ : ∃ q, q = decide (lo ≤ x ∧ x ≤ hi) := ⟨_, rfl⟩
      rw [← hq]
      have HQ := Lib.hid hq
      clear hq
      rintro e w' ⟨rfl, rfl⟩
      cases q
      · go_wp2_with fail
        go_ret
        refine ⟨ret_boolW ?_, rfl⟩
        symm
        simp only [decide_eq_false_iff_not]
        intro h
        exact of_decide_eq_false HQ.out.symm (h x (List.mem_of_getElem? HX.out))
      · go_wp2_with fail
        go_round
        case rel => exact ⟨k + 1, by omega, by go_num, fun y hy => by
          rw [List.take_add_one, HX.out] at hy
          simp at hy
          rcases hy with hy | hy
          · exact HS.out y hy
          · subst hy; exact of_decide_eq_true HQ.out.symm⟩
        case measure => simp [intOf]; omega
    · go_wp2_with fail
      go_ret
      refine ⟨ret_boolW ?_, rfl⟩
      symm
      simp only [decide_eq_true_eq]
      have := HS.out
      rw [List.take_of_length_le (by have := HN.out; omega)] at this
      exact this

/-- what Check tells of numbers -/
def codeOf (xs : List Int) : Int := if xs = [] then 5 else if 16 < xs.length then 4 else if ∀ x ∈ xs, 0 ≤ x ∧ x ≤ 1000 then 0 else 1

/-- the error value of a number -/
def errW (k : Int) : Value := if k = 0 then .nilIface else .iface 63 (.int .i64 k)

set_option maxHeartbeats 400000 in
theorem check_any (va : Value) (xs : List Int) (w : World) (ha : HasInts w va xs) :
    Calls Tryd.prog 26 #[va] w fun e w' => e = .returned (errW (codeOf xs)) ∧ w = w' := by
  have HA := Lib.hid ha
  obtain ⟨a, capa, rfl, la1, la2, -⟩ := ha
  unfold maxLen at la2
  by_cases h0 : xs = []
  · have h : codeOf xs = 5 := by simp [codeOf, h0]
    rw [h]
    subst h0
    go_enter Tryd.func26, Tryd.ntmps26
    go_wp2_with fail
    go_ret
    exact ⟨rfl, rfl⟩
  have hpos : 0 < xs.length := List.length_pos_iff.2 h0
  have q0 : ((xs.length : Int) == 0) = false := beq_eq_false_iff_ne.2 (by omega)
  by_cases h1 : 16 < xs.length
  · have h : codeOf xs = 4 := by simp [codeOf, h0, h1]
    rw [h]
    clear h
    go_enter Tryd.func26, Tryd.ntmps26
    go_wp2_with fail
    go_ret
    exact ⟨rfl, rfl⟩
  · by_cases h2 : ∀ x ∈ xs, 0 ≤ x ∧ x ≤ 1000
    · have h : codeOf xs = 0 := by unfold codeOf; rw [if_neg h0, if_neg h1, if_pos h2]
      rw [h]
      have D := Lib.hid (decide_eq_true h2)
      clear h h2 h0
      go_enter Tryd.func26, Tryd.ntmps26
      go_wp2_with fail
      refine (all_any _ xs _ _ _ HA.out).mono ?_
      rw [D.out]
      rintro e w' ⟨rfl, rfl⟩
      go_wp2_with fail
      go_ret
      exact ⟨rfl, rfl⟩
    · have h : codeOf xs = 1 := by unfold codeOf; rw [if_neg h0, if_neg h1, if_neg h2]
      rw [h]
      have D := Lib.hid (decide_eq_false h2)
      clear h h2 h0
      go_enter Tryd.func26, Tryd.ntmps26
      go_wp2_with fail
      refine (all_any _ xs _ _ _ HA.out).mono ?_
      rw [D.out]
      rintro e w' ⟨rfl, rfl⟩
      go_wp2_with fail
      go_ret
      exact ⟨rfl, rfl⟩

theorem least_any (va : Value) (xs : List Int) (w : World) (ha : HasInts w va xs) (h0 : 0 < xs.length) :
    Calls Tryd.prog 47 #[va] w fun e w' => (∃ i : Nat, e = .returned (.int .i64 (i : Nat)) ∧ IsLeast xs i) ∧ w = w' := by
  go_enter Tryd.func47, Tryd.ntmps47
  go_wp2_with fail
  refine (min_any _ xs _ ha h0).mono ?_
  rintro e w' ⟨⟨m, rfl, hm⟩, rfl⟩
  have HM := Lib.hid hm
  have HA := Lib.hid ha
  clear hm ha
  go_wp2_with fail
  refine (index_any _ xs _ _ HA.out HM.out.1).mono ?_
  rintro e w' ⟨⟨i, rfl, h1, h2⟩, rfl⟩
  have H1 := Lib.hid h1
  have H2 := Lib.hid h2
  clear h1 h2
  go_wp2_with fail
  go_ret
  exact ⟨⟨i, rfl, m, H1.out, HM.out, H2.out⟩, rfl⟩

end Go.Proofs.YtgiehdlkgjmojaaDoor
