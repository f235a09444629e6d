/- The walk of platterholdsame.Sum, where nothing wraps. -/
import Derived.Test.YtglcljeeigilnaaProg
import Derived.Test.YtglcljeeigilnaaBase
namespace Go.Proofs.Ytglcljeeigilnaa
open Go.RowKit

theorem sum_takeS {rs : List Int} {k : Nat} {x : Int} (h : rs[k]? = some x) : (rs.take (k + 1)).sum = (rs.take k).sum + x := by
  rw [List.take_add_one, h]
  simp
theorem sum_boundsS {l : List Int} {B : Int} (h : ∀ x ∈ l, 0 ≤ x ∧ x ≤ B) : 0 ≤ l.sum ∧ l.sum ≤ B * l.length := by
  induction l with
  | nil => simp
  | cons x l ih =>
    have h1 := h x (by simp)
    have h2 := ih (fun y hy => h y (by simp [hy]))
    simp
    rw [Int.mul_add]
    omega

set_option maxHeartbeats 400000 in
theorem sum_anyS (va : Value) (xs : List Int) (w : World) (ha : HasInts w va xs) (hlen : xs.length ≤ 1000) (hx : ∀ x ∈ xs, 0 ≤ x ∧ x ≤ 100000) :
    Calls Try.prog 20 #[va] w fun e w' => e = .returned (.int .i64 xs.sum) ∧ w = w' := by
  obtain ⟨a, cap, rfl, la1, la2, hca⟩ := ha
  obtain ⟨n, hn⟩ : ∃ n, n = xs.length := ⟨_, rfl⟩
  rw [← hn] at hlen hca ⊢
  have HN := Lib.hid hn
  have HX := Lib.hid hx
  have HC := Lib.hid hca
  clear hn hx hca la1 la2
  go_enter Try.func20, Try.ntmps20
  go_wp2_with fail
  go_loop [3, 4] (fun u i => ∃ k : Nat, k ≤ n ∧ i = .int .i64 (k : Nat) ∧ u = .int .i64 (xs.take k).sum) (fun _ i => n - (intOf i).toNat)
  case atStart => exact ⟨0, Nat.zero_le _, rfl, rfl⟩
  case round =>
    obtain ⟨k, hk, rfl, rfl⟩ := hrel
    have hsb := sum_boundsS (l := xs.take k) (fun x hx => HX.out x (List.mem_of_mem_take hx))
    have hsl : (xs.take k).length ≤ k := List.length_take_le _ _
    obtain ⟨L, hL⟩ : ∃ L, L = (xs.take k).sum := ⟨_, rfl⟩
    have hL1 : 0 ≤ L := by omega
    have hL2 : L ≤ 100000000 := by omega
    rw [← hL]
    have HL := Lib.hid hL
    clear hL hsb hsl
    by_cases hlt : k < n
    · obtain ⟨b, o, rfl, hb, hcx⟩ := HC.out (by omega)
      obtain ⟨x, hx⟩ : ∃ x, xs[k]? = some x := ⟨_, List.getElem?_eq_getElem (by have := HN.out; omega)⟩
      have hxc := hcx k x hx
      have hxb := HX.out x (List.mem_of_getElem? hx)
      have hxb1 := hxb.1
      have hxb2 := hxb.2
      have EX := Lib.hid hx
      clear hx hxb hcx
      go_wp2_with fail
      go_round
      case rel => exact ⟨k + 1, by omega, by go_num, by rw [sum_takeS EX.out, HL.out]⟩
      case measure => simp [intOf]; omega
    · go_wp2_with fail
      go_ret
      refine ⟨?_, rfl⟩
      have := HL.out
      rw [List.take_of_length_le (by have := HN.out; omega)] at this
      rw [this]
      rfl

end Go.Proofs.Ytglcljeeigilnaa
