/- A slice of strings that came in: what the frame's reading gives a walk. -/
import Derived.Test.YtegibgflhhdddaaGreatDoorBase
import Derived.ProofKit
import Derived.OpenShut
import Derived.SliceStrings
namespace Go.Proofs.YtegibgflhhdddaaGreatDoor
open Go.RowKit

def StrsArg (W : World) (v : Value) (ts : List ByteArray) : Prop := HasStrs W v ts ∧ ∀ t ∈ ts, t.size ≤ 9223372036854775807

theorem strs_nil {W : World} {a : Option Addr} {len cap : Nat} (hcs : (Value.slice a len cap).cells.toList = [.slice none 0 0]) : ∃ xs, StrsArg W (.slice a len cap) xs := by
  simp [Value.cells] at hcs
  obtain ⟨rfl, rfl, rfl⟩ := hcs
  exact ⟨[], ⟨none, 0, rfl, Nat.le_refl _, Nat.zero_le _, fun h => absurd h (by simp)⟩, by simp⟩

theorem strs_some {W : World} {a : Option Addr} {len cap : Nat} {x : Addr} {l c : Nat} {zs : List ByteArray} (hcs : (Value.slice a len cap).cells.toList = [.slice (some x) l c]) (hl : l ≤ c) (hm : c ≤ maxLen)
    (hz : zs.length = c) (hcell : ∀ i, i < zs.length → W.cell? (x.add i) = some (.string (zs.getD i ByteArray.empty))) (hwz : ∀ n ∈ zs, n.size ≤ maxLen) : ∃ xs, StrsArg W (.slice a len cap) xs := by
  simp [Value.cells] at hcs
  obtain ⟨rfl, rfl, rfl⟩ := hcs
  have hlen : (zs.take len).length = len := by simp; omega
  refine ⟨zs.take len, ⟨some x, cap, by rw [hlen], by omega, hm, fun h0 => ?_⟩, fun n hn => ?_⟩
  · obtain ⟨b, off, spot⟩ := x
    have h0' := hcell 0 (by omega)
    have hspot : spot = none := by simpa [Addr.add] using World.cell?_spot h0'
    subst hspot
    refine ⟨b, off, rfl, World.block_lt_of_cell? W _ (by simpa [Addr.add] using h0'), fun j y hy => ?_⟩
    have hj : j < zs.length := by
      rcases Nat.lt_or_ge j (zs.take len).length with h | h
      · rw [hlen] at h; omega
      · rw [List.getElem?_eq_none h] at hy; cases hy
    have h1 := hcell j hj
    have hadd : (⟨b, off, none⟩ : Addr).add j = ⟨b, off + j, none⟩ := by unfold Addr.add; split <;> simp_all
    rw [hadd] at h1
    rw [h1]
    rw [List.getElem?_take] at hy
    split at hy
    · simp [List.getD, hy]
    · cases hy
  · have := hwz n (List.mem_of_mem_take hn)
    unfold maxLen at this
    omega

end Go.Proofs.YtegibgflhhdddaaGreatDoor
