/- A slice of integers that came in: what the frame's reading gives a walk. -/
import Derived.Test.YtglcljeeigilnaaBase
import Derived.ProofKit
import Derived.OpenShut
namespace Go.Proofs.Ytglcljeeigilnaa
open Go.RowKit

def IntsArg (W : World) (v : Value) (xs : List Int) : Prop := HasInts W v xs ∧ ∀ x ∈ xs, -9223372036854775808 ≤ x ∧ x ≤ 9223372036854775807

theorem ints_nil {W : World} {a : Option Addr} {len cap : Nat} (hcs : (Value.slice a len cap).cells.toList = [.slice none 0 0]) : ∃ xs, IntsArg W (.slice a len cap) xs := by
  simp [Value.cells] at hcs
  obtain ⟨rfl, rfl, rfl⟩ := hcs
  exact ⟨[], HasInts.nil W, by simp⟩

theorem ints_some {W : World} {a : Option Addr} {len cap : Nat} {x : Addr} {l c : Nat} {zs : List Int} (hcs : (Value.slice a len cap).cells.toList = [.slice (some x) l c]) (hl : l ≤ c) (hm : c ≤ maxLen)
    (hz : zs.length = c) (hcell : ∀ i, i < zs.length → W.cell? (x.add i) = some (.int .i64 (zs.getD i 0))) (hwz : ∀ n ∈ zs, (Lit.int .i64 n).wf = true) : ∃ xs, IntsArg W (.slice a len cap) xs := by
  simp [Value.cells] at hcs
  obtain ⟨rfl, rfl, rfl⟩ := hcs
  have hlen : (zs.take len).length = len := by simp; omega
  refine ⟨zs.take len, ⟨some x, cap, by rw [hlen], by omega, hm, fun h0 => ?_⟩, fun n hn => ?_⟩
  · obtain ⟨b, off, spot⟩ := x
    have h0' := hcell 0 (by omega)
    have hspot : spot = none := by simpa [Addr.add] using World.cell?_spot h0'
    subst hspot
    refine ⟨b, off, rfl, World.block_lt_of_cell? W _ (by simpa [Addr.add] using h0'), fun j y hy => ?_⟩
    have hj : j < zs.length := by
      rcases Nat.lt_or_ge j (zs.take len).length with h | h
      · rw [hlen] at h; omega
      · rw [List.getElem?_eq_none h] at hy; cases hy
    have h1 := hcell j hj
    rw [add_flat] at h1
    rw [h1]
    rw [List.getElem?_take] at hy
    split at hy
    · simp [List.getD, hy]
    · cases hy
  · have := hwz n (List.mem_of_mem_take hn)
    exact bounds_i64 this

end Go.Proofs.Ytglcljeeigilnaa
