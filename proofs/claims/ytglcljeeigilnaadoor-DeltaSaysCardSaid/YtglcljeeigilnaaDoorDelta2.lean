/- The walk of Make: the map of the old text's blocks. -/
import Derived.Test.YtglcljeeigilnaaDoorDelta1
import Derived.Test.YtglcljeeigilnaaDoorDMap
import Derived.Test.YtglcljeeigilnaaDoorPush
import Derived.Carry
namespace Go.Proofs.YtglcljeeigilnaaDoor
open Go.RowKit Go.MapKept Delta
open Go.ChangeMaps (setBlock)

/-- the map of the first k blocks -/
structure MapTo (M : List Ent) (c : Nat) (o : ByteArray) (z k : Nat) : Prop where
  is : ∀ e ∈ M, ∃ j, j < k ∧ e.1 = blk o z j ∧ e.2.1 = j * z ∧ ∀ i, i < j → blk o z i ≠ e.1
  has : ∀ j, j < k → ∃ e ∈ M, e.1 = blk o z j
  born : ∀ e ∈ M, e.2.2 < c

theorem MapTo.nil (o : ByteArray) (z : Nat) : MapTo [] 0 o z 0 := ⟨by simp, fun j h => by omega, by simp⟩
theorem MapTo.old {M : List Ent} {c : Nat} {o : ByteArray} {z k : Nat} (h : MapTo M c o z k) (he : ∃ e ∈ M, e.1 = blk o z k) : MapTo M c o z (k + 1) := by
  refine ⟨fun e he => ?_, fun j hj => ?_, h.born⟩
  · obtain ⟨j, h1, h2⟩ := h.is e he
    exact ⟨j, by omega, h2⟩
  · by_cases hk : j < k
    · exact h.has j hk
    · obtain rfl : j = k := by omega
      exact he
theorem MapTo.new {M : List Ent} {c : Nat} {o : ByteArray} {z k : Nat} (h : MapTo M c o z k) (he : ∀ e ∈ M, e.1 ≠ blk o z k) : MapTo (M ++ [(blk o z k, k * z, c)]) (c + 1) o z (k + 1) := by
  refine ⟨fun e hm => ?_, fun j hj => ?_, fun e hm => ?_⟩
  · simp only [List.mem_append, List.mem_singleton] at hm
    rcases hm with hm | rfl
    · obtain ⟨j, h1, h2⟩ := h.is e hm
      exact ⟨j, by omega, h2⟩
    · refine ⟨k, by omega, rfl, rfl, fun i hi => ?_⟩
      obtain ⟨e, hm, h1⟩ := h.has i hi
      rw [← h1]
      exact he e hm
  · by_cases hk : j < k
    · obtain ⟨e, hm, h1⟩ := h.has j hk
      exact ⟨e, by simp [hm], h1⟩
    · obtain rfl : j = k := by omega
      exact ⟨(blk o z j, j * z, c), by simp, rfl⟩
  · simp only [List.mem_append, List.mem_singleton] at hm
    rcases hm with hm | rfl
    · have := h.born e hm; omega
    · simp
theorem MapTo.hit {M : List Ent} {c : Nat} {o : ByteArray} {z k : Nat} (h : MapTo M c o z k) (hk : k * z ≤ o.size) {e : Ent} (he : e ∈ M) : Hit o z e.1 e.2.1 := by
  obtain ⟨j, h1, h2, h3, h4⟩ := h.is e he
  refine ⟨j, h3, ?_, h2.symm, h4⟩
  have := Nat.mul_le_mul_right z (show j + 1 ≤ k by omega)
  rw [Nat.succ_mul] at this
  omega
theorem MapTo.miss {M : List Ent} {c : Nat} {o : ByteArray} {z k : Nat} (h : MapTo M c o z k) (hk : o.size < k * z + z) {s : ByteArray} (he : ∀ e ∈ M, e.1 ≠ s) : Miss o z s := by
  intro j hj hb
  rcases Nat.lt_or_ge j k with hjk | hjk
  · obtain ⟨e, hm, h1⟩ := h.has j hjk
    exact he e hm (by rw [h1, hb])
  · have := Nat.mul_le_mul_right z hjk
    omega

theorem update_ents {P : Program} {mt kt et : TypeId} {w : World} {b c : Nat} {M : List Ent} {t : ByteArray} (hm : P.underlying mt = some (.map kt et)) (hk : P.underlying kt = some .string) (hb : w.heap[b]? = some (.map (ents M) c)) (hn : ∀ e ∈ M, e.1 ≠ t) (n : Nat) :
    (Instr.mapUpdate mt (.map (some b)) (.string t) (.int .i64 (n : Nat))).run P w = .ok () (setBlock w b (.map (ents (M ++ [(t, n, c)])) (c + 1))) := by
  have hck : ∀ em, (Instr.checkKey em 10000 kt (.string t)).run P w = .ok () w := fun em => MapKept.run_checkKey (d := .string) (k := .string t) hk trivial em 9999
  rcases find_ents hk M t w with ⟨h1, h2⟩ | ⟨j, e, h1, h2, h3⟩
  · have h4 := ents_push M (t, n, c)
    simp only [ent] at h4
    simp [Instr.mapUpdate, run_underlying hm, MapKept.run_getObj_map hb, hck, h1, run_setObj_map _ hb, Result.andThen, setBlock, h4]
  · exact absurd h3 (hn e (List.mem_of_getElem? h2))

end Go.Proofs.YtglcljeeigilnaaDoor
