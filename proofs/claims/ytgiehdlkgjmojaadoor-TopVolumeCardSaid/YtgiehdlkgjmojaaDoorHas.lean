/- The walk of platterholdref1.Has. -/
import Derived.Test.YtgiehdlkgjmojaaDoorInts
namespace Go.Proofs.YtgiehdlkgjmojaaDoor
open Go.RowKit

theorem has_step {xs : List Int} {k : Nat} {x n : Int} (h : n ∉ xs.take k) (hx : xs[k]? = some x) (hne : x ≠ n) : n ∉ xs.take (k + 1) := by
  rw [List.take_add_one, hx]
  simp
  exact ⟨h, fun e => hne e.symm⟩

set_option maxHeartbeats 400000 in
theorem has_any (va : Value) (xs : List Int) (m : Int) (w : World) (ha : HasInts w va xs) :
    Calls Tryd.prog 20 #[va, .int .i64 m] w fun e w' => e = .returned (.bool (decide (m ∈ xs))) ∧ w = w' := by
  obtain ⟨a, capa, rfl, la1, la2, hca⟩ := ha
  unfold maxLen at la2
  have la : xs.length ≤ 9223372036854775807 := by omega
  clear la1 la2
  obtain ⟨n, hn⟩ : ∃ n, n = xs.length := ⟨_, rfl⟩
  rw [← hn] at la hca ⊢
  have HN := Lib.hid hn
  clear hn
  go_enter Tryd.func20, Tryd.ntmps20
  go_wp2
  go_loop [5] (fun i => ∃ k : Nat, k ≤ n ∧ i = .int .i64 k ∧ m ∉ xs.take k) (fun i => n - (intOf i).toNat)
  case atStart => exact ⟨0, Nat.zero_le _, rfl, by simp⟩
  case round =>
    obtain ⟨k, hk, rfl, hs⟩ := hrel
    have HS := Lib.hid hs
    clear hs
    by_cases hlt : k < n
    · obtain ⟨ab, ao, rfl, hab, hac⟩ := hca (by omega)
      obtain ⟨x, hx⟩ : ∃ x, xs[k]? = some x := ⟨_, List.getElem?_eq_getElem (by have := HN.out; omega)⟩
      have hxc := hac k x hx
      have HX := Lib.hid hx
      clear hx hac hca
      by_cases hxy : x = m
      · subst hxy
        go_wp2
        go_ret
        exact ⟨ret_bool (by symm; simp; exact List.mem_of_getElem? HX.out), rfl⟩
      · go_wp2
        go_round
        case rel => exact ⟨k + 1, by omega, by go_num, has_step HS.out HX.out hxy⟩
        case measure => simp [intOf]; omega
    · go_wp2
      go_ret
      exact ⟨ret_bool (by symm; simp; have h := HS.out; rw [List.take_of_length_le (by have := HN.out; omega)] at h; exact h), rfl⟩

end Go.Proofs.YtgiehdlkgjmojaaDoor
