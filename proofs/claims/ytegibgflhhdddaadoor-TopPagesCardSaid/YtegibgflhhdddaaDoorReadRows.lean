/- A slice of slices of integers that came in: what the frame's reading gives a walk. -/
import Derived.Test.YtegibgflhhdddaaDoorBase
import Derived.ProofKit
import Derived.OpenShut
import Derived.Deep.Matrix
namespace Go.Proofs.YtegibgflhhdddaaDoor
open Go.RowKit

def RowsArg (W : World) (v : Value) (rs : List (List Int)) : Prop := HasRows W v rs ∧ ∀ r ∈ rs, ∀ x ∈ r, -9223372036854775808 ≤ x ∧ x ≤ 9223372036854775807

theorem rows_nil {W : World} {a : Option Addr} {len cap : Nat} (hcs : (Value.slice a len cap).cells.toList = [.slice none 0 0]) : ∃ xs, RowsArg W (.slice a len cap) xs := by
  simp [Value.cells] at hcs
  obtain ⟨rfl, rfl, rfl⟩ := hcs
  exact ⟨[], ⟨none, 0, rfl, Nat.le_refl _, Nat.zero_le _, fun h => absurd h (by simp)⟩, by simp⟩

theorem row_reads {W : World} {A : Option Addr} {L C : Nat} {Z : List Int} (h1 : L ≤ C) (h2 : C ≤ maxLen) (h3 : Z.length = C) (h4 : A = none → C = 0)
    (h5 : ∀ a', A = some a' → 0 ≤ a'.block ∧ ∀ c, c < C → W.cell? (a'.add c) = some (.int .i64 (Z.getD c 0))) : HasInts W (.slice A L C) (Z.take L) := by
  have hlen : (Z.take L).length = L := by simp; omega
  refine ⟨A, C, by rw [hlen], by omega, h2, fun h0 => ?_⟩
  rw [hlen] at h0
  cases A with
  | none => have := h4 rfl; omega
  | some a =>
    obtain ⟨-, h6⟩ := h5 a rfl
    obtain ⟨b, off, spot⟩ := a
    have h0' := h6 0 (by omega)
    have hspot : spot = none := by simpa [Addr.add] using World.cell?_spot h0'
    subst hspot
    refine ⟨b, off, rfl, World.block_lt_of_cell? W _ (by simpa [Addr.add] using h0'), fun j y hy => ?_⟩
    have hj : j < L := by
      rcases Nat.lt_or_ge j (Z.take L).length with h | h
      · rw [hlen] at h; omega
      · rw [List.getElem?_eq_none h] at hy; cases hy
    have h1 := h6 j (by omega)
    rw [add_flat] at h1
    rw [h1]
    rw [List.getElem?_take, if_pos hj] at hy
    simp [List.getD, hy]

theorem rows_some {W : World} {a : Option Addr} {len cap : Nat} {x : Addr} {l c : Nat} {A : Nat → Option Addr} {L C : Nat → Nat} {Z : Nat → List Int} (hcs : (Value.slice a len cap).cells.toList = [.slice (some x) l c]) (hl : l ≤ c) (hm : c ≤ maxLen)
    (hrow : ∀ r, r < c → W.cell? (x.add r) = some (.slice (A r) (L r) (C r)) ∧ L r ≤ C r ∧ C r ≤ maxLen ∧ (Z r).length = C r ∧ (∀ n ∈ Z r, (Lit.int .i64 n).wf = true) ∧ (A r = none → C r = 0) ∧
      ∀ a', A r = some a' → 0 ≤ a'.block ∧ ∀ c', c' < C r → W.cell? (a'.add c') = some (.int .i64 ((Z r).getD c' 0))) : ∃ rs, RowsArg W (.slice a len cap) rs := by
  simp [Value.cells] at hcs
  obtain ⟨rfl, rfl, rfl⟩ := hcs
  refine ⟨(List.range len).map fun r => (Z r).take (L r), ⟨some x, cap, by simp, by simpa using hl, hm, fun h0 => ?_⟩, fun r hr n hn => ?_⟩
  · simp at h0
    obtain ⟨b, off, spot⟩ := x
    have h0' := (hrow 0 (by omega)).1
    have hspot : spot = none := by simpa [Addr.add] using World.cell?_spot h0'
    subst hspot
    refine ⟨b, off, rfl, World.block_lt_of_cell? W _ (by simpa [Addr.add] using h0'), fun j r hr => ?_⟩
    rw [List.getElem?_map] at hr
    obtain ⟨j', hj', rfl⟩ := Option.map_eq_some_iff.1 hr
    have hj : j < len ∧ j' = j := by
      rcases Nat.lt_or_ge j (List.range len).length with h | h
      · rw [List.getElem?_eq_getElem h] at hj'
        simp at hj' h
        exact ⟨h, hj'.symm⟩
      · rw [List.getElem?_eq_none h] at hj'; cases hj'
    obtain ⟨hj, rfl⟩ := hj
    obtain ⟨c1, c2, c3, c4, -, c6, c7⟩ := hrow j' (by omega)
    refine ⟨_, by rw [← add_flat]; exact c1, row_reads c2 c3 c4 c6 c7⟩
  · obtain ⟨j, hj, rfl⟩ := List.mem_map.1 hr
    have := (hrow j (by have := List.mem_range.1 hj; omega)).2.2.2.2.1 n (List.mem_of_mem_take hn)
    exact bounds_i64 this

end Go.Proofs.YtegibgflhhdddaaDoor
