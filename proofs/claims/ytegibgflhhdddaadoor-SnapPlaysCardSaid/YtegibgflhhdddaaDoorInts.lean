/- The walks of the small helpers: whether two lists are the same; whether a list has a number. -/
import Derived.Test.YtegibgflhhdddaaDoorProg
import Derived.Test.YtegibgflhhdddaaDoorBase
namespace Go.Proofs.YtegibgflhhdddaaDoor
open Go.RowKit

def Same (xs ys : List Int) (k : Nat) : Prop := ∀ j, j < k → xs[j]? = ys[j]?

theorem Same.step {xs ys : List Int} {k : Nat} {x : Int} (h : Same xs ys k) (hx : xs[k]? = some x) (hy : ys[k]? = some x) : Same xs ys (k + 1) := by
  intro j hj
  by_cases e : j = k
  · subst e; rw [hx, hy]
  · exact h j (by omega)

theorem Same.all {xs ys : List Int} {k : Nat} (h : Same xs ys k) (hk : xs.length ≤ k) (hl : xs.length = ys.length) : xs = ys := by
  apply List.ext_getElem? 
  intro j
  by_cases hj : j < k
  · exact h j hj
  · rw [List.getElem?_eq_none (by omega), List.getElem?_eq_none (by omega)]

theorem ret_bool {a b : Bool} (h : a = b) : Ending.returned (.bool a) = .returned (.bool b) := by rw [h]

set_option maxHeartbeats 400000 in
theorem ints_any (va vb : Value) (xs ys : List Int) (w : World) (ha : HasInts w va xs) (hb : HasInts w vb ys) :
    Calls Tryd.prog 28 #[va, vb] w fun e w' => e = .returned (.bool (decide (xs = ys))) ∧ ∃ n, w' = w.drewN n := by
  obtain ⟨a, capa, rfl, la1, la2, hca⟩ := ha
  obtain ⟨b, capb, rfl, lb1, lb2, hcb⟩ := hb
  unfold maxLen at la2 lb2
  have la : xs.length ≤ 9223372036854775807 := by omega
  have lb : ys.length ≤ 9223372036854775807 := by omega
  clear la1 la2 lb1 lb2
  by_cases hlen : xs.length = ys.length
  · rw [← hlen] at lb hcb ⊢
    have HL := Lib.hid hlen
    clear hlen
    obtain ⟨n, hn⟩ : ∃ n, n = xs.length := ⟨_, rfl⟩
    rw [← hn] at la lb hca hcb ⊢
    have HN := Lib.hid hn
    clear hn
    go_enter Tryd.func28, Tryd.ntmps28
    go_wp2
    go_loopw [5] (fun i wr => ∃ k : Nat, k ≤ n ∧ i = .int .i64 k ∧ Same xs ys k ∧ ∃ d, wr = w.drewN d) (fun i _ => n - (intOf i).toNat)
    case atStart => exact ⟨0, Nat.zero_le _, rfl, fun j hj => by omega, 0, rfl⟩
    case round =>
      obtain ⟨k, hk, rfl, hs, d, rfl⟩ := hrel
      have HS := Lib.hid hs
      clear hs
      by_cases hlt : k < n
      · obtain ⟨ab, ao, rfl, hab, hac⟩ := hca (by omega)
        obtain ⟨bb, bo, rfl, hbb, hbc⟩ := hcb (by omega)
        obtain ⟨x, hx⟩ : ∃ x, xs[k]? = some x := ⟨_, List.getElem?_eq_getElem (by have := HN.out; omega)⟩
        obtain ⟨y, hy⟩ : ∃ y, ys[k]? = some y := ⟨_, List.getElem?_eq_getElem (by have := HN.out; have := HL.out; omega)⟩
        have hxc := hac k x hx
        have hyc := hbc k y hy
        have HX := Lib.hid hx
        have HY := Lib.hid hy
        clear hx hy hac hbc hca hcb
        by_cases hxy : x = y
        · subst hxy
          go_wp2
          go_quiet (fail)
          go_wp2
          go_roundw
          case rel => exact ⟨k + 1, by omega, by go_num, HS.out.step HX.out HY.out, _, rfl⟩
          case measure => simp [intOf]; omega
        · go_wp2
          go_quiet (fail)
          go_wp2
          go_ret
          exact ⟨ret_bool (by symm; simp; intro h; have h1 := HX.out; have h2 := HY.out; rw [h] at h1; rw [h1] at h2; exact hxy (Option.some.inj h2)), drewN_two _ _ _⟩
      · go_wp2
        go_ret
        exact ⟨ret_bool (by symm; simp; exact HS.out.all (by have := HN.out; omega) HL.out), _, rfl⟩
  · go_enter Tryd.func28, Tryd.ntmps28
    go_wp2
    go_ret
    refine ⟨by simp; intro h; exact hlen (by rw [h]), 0, rfl⟩

end Go.Proofs.YtegibgflhhdddaaDoor
