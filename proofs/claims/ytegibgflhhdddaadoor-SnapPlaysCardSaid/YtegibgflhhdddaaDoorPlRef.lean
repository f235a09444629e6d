/- The reference's planes: rows of noughts and ones, and what the volume says of them; how they lie. -/
import Derived.Test.YtegibgflhhdddaaDoorSnapMath
import Derived.Test.YtegibgflhhdddaaDoorRows0
namespace Go.Proofs.YtegibgflhhdddaaDoor
open Go.RowKit

def rowOf (x : Nat) : List Int := (List.range 32).map fun i => if x.testBit i then 1 else 0
def snapL (s : Vol) (k : Nat) : List Int := if s.b k then rowOf (s.p k) else []
/-- the places of the ones -/
def onesTo (L : List Int) (k : Nat) : List Int := ((List.range k).filter fun i => decide (L[i]? = some 1)).map Int.ofNat
def freeTo (s : Vol) (k : Nat) : List Int := ((List.range k).filter fun i => !s.all.testBit i).map Int.ofNat

theorem rowOf_length (x : Nat) : (rowOf x).length = 32 := by simp [rowOf]
theorem rowOf_get (x : Nat) {i : Nat} (h : i < 32) : (rowOf x)[i]? = some (if x.testBit i then 1 else 0) := by
  unfold rowOf
  rw [List.getElem?_map, List.getElem?_range h]
  rfl
theorem rowOf_ext {L : List Int} {x : Nat} (hl : L.length = 32) (h : ∀ i, i < 32 → L[i]? = some (if x.testBit i then 1 else 0)) : L = rowOf x := by
  apply List.ext_getElem?
  intro i
  by_cases hi : i < 32
  · rw [h i hi, rowOf_get x hi]
  · rw [List.getElem?_eq_none (by omega), List.getElem?_eq_none (by rw [rowOf_length]; omega)]
theorem rowOf_one (x : Nat) {i : Nat} (h : i < 32) : (rowOf x).set i 1 = rowOf (x ||| 2 ^ i) := by
  refine rowOf_ext (by rw [List.length_set, rowOf_length]) fun j hj => ?_
  by_cases hij : i = j
  · subst hij
    rw [List.getElem?_set_self (by rw [rowOf_length]; exact h), bit_set]
    simp
  · rw [List.getElem?_set_ne hij, rowOf_get x hj, bit_set]
    simp [hij]
theorem rowOf_nought (x : Nat) {i : Nat} (h : i < 32) : (rowOf x).set i 0 = rowOf (x &&& (4294967295 - 2 ^ i)) := by
  refine rowOf_ext (by rw [List.length_set, rowOf_length]) fun j hj => ?_
  by_cases hij : i = j
  · subst hij
    rw [List.getElem?_set_self (by rw [rowOf_length]; exact h), bit_clear x i i h h]
    simp
  · rw [List.getElem?_set_ne hij, rowOf_get x hj, bit_clear x i j h hj]
    simp [hij]
theorem rowOf_zero : rowOf 0 = List.replicate 32 0 := by decide
theorem onesTo_yes {L : List Int} {k : Nat} (h : L[k]? = some 1) : onesTo L (k + 1) = onesTo L k ++ [(k : Int)] := by
  unfold onesTo
  rw [List.range_succ, List.filter_append, List.map_append]
  simp [h]
theorem onesTo_no {L : List Int} {k : Nat} (h : L[k]? ≠ some 1) : onesTo L (k + 1) = onesTo L k := by
  unfold onesTo
  rw [List.range_succ, List.filter_append, List.map_append]
  simp [h]
theorem onesTo_len (L : List Int) (k : Nat) : (onesTo L k).length ≤ k := by
  unfold onesTo
  rw [List.length_map]
  exact Nat.le_trans (List.length_filter_le _ _) (by simp)
theorem onesTo_row (x : Nat) : onesTo (rowOf x) 32 = bitsOf x := by
  unfold onesTo bitsOf
  congr 1
  refine List.filter_congr fun i hi => ?_
  rw [rowOf_get x (List.mem_range.1 hi)]
  cases x.testBit i <;> simp
theorem bits_nought : bitsOf 0 = [] := by decide
theorem onesTo_snap {s : Vol} (hs : s.ok) (k : Nat) : onesTo (snapL s k) (snapL s k).length = bitsOf (s.p k) := by
  unfold snapL
  cases h : s.b k
  · rw [hs.2.2 k h, bits_nought]
    rfl
  · simp only [if_true]
    rw [rowOf_length, onesTo_row]
theorem onesTo_now (s : Vol) : onesTo (rowOf s.now) (rowOf s.now).length = bitsOf s.now := by rw [rowOf_length, onesTo_row]

theorem freeTo_yes {s : Vol} {k : Nat} (h : s.all.testBit k = false) : freeTo s (k + 1) = freeTo s k ++ [(k : Int)] := by
  unfold freeTo
  rw [List.range_succ, List.filter_append, List.map_append]
  simp [h]
theorem freeTo_no {s : Vol} {k : Nat} (h : s.all.testBit k = true) : freeTo s (k + 1) = freeTo s k := by
  unfold freeTo
  rw [List.range_succ, List.filter_append, List.map_append]
  simp [h]
theorem freeTo_len (s : Vol) (k : Nat) : (freeTo s k).length + popN k s.all = k := by
  induction k with
  | zero => rfl
  | succ k ih =>
    simp only [popN]
    cases h : s.all.testBit k
    · rw [freeTo_yes h, List.length_append]
      simp
      omega
    · rw [freeTo_no h]
      simp
      omega
theorem freeTo_free (s : Vol) : (freeTo s 32).length = s.free := by
  have := freeTo_len s 32
  unfold Vol.free
  omega
theorem freeTo_le (s : Vol) (k : Nat) : (freeTo s k).length ≤ k := by have := freeTo_len s k; omega
theorem freeTo_first {s : Vol} (hs : s.ok) (hne : s.all ≠ 4294967295) : ∃ t, freeTo s 32 = (s.first : Int) :: t := by
  obtain ⟨h1, h2, h3⟩ := first_bits (Vol.all_lt hs) hne
  change s.first < 32 at h1
  change s.all.testBit s.first = false at h2
  change ∀ j, j < s.first → s.all.testBit j = true at h3
  have k0 : ∀ j, j ≤ s.first → freeTo s j = [] := by
    intro j
    induction j with
    | zero => intro _; rfl
    | succ j ih => intro hj; rw [freeTo_no (h3 j (by omega)), ih (by omega)]
  have k1 : ∀ d, ∃ t, freeTo s (s.first + 1 + d) = (s.first : Int) :: t := by
    intro d
    induction d with
    | zero => exact ⟨[], by rw [Nat.add_zero, freeTo_yes h2, k0 _ (Nat.le_refl _)]; rfl⟩
    | succ d ih =>
      obtain ⟨t, ht⟩ := ih
      cases h : s.all.testBit (s.first + 1 + d)
      · exact ⟨t ++ [((s.first + 1 + d : Nat) : Int)], by rw [← Nat.add_assoc, freeTo_yes h, ht]; rfl⟩
      · exact ⟨t, by rw [← Nat.add_assoc, freeTo_no h, ht]⟩
  obtain ⟨t, ht⟩ := k1 (31 - s.first)
  exact ⟨t, by rw [← ht]; congr 1; omega⟩
theorem freeTo_full {s : Vol} (h : s.all = 4294967295) : freeTo s 32 = [] := by
  unfold freeTo
  rw [h]
  decide

/-! how they lie -/

variable {z : Nat}
/-- the rows of the snapshots -/
def SR (z : Nat) (w : World) (v : Value) (s : Vol) : Prop :=
  ∃ b cap cs fr, v = .slice (some ⟨b, 0, none⟩) 4 cap ∧ 4 ≤ cap ∧ cap ≤ maxLen ∧ w.heap[b]? = some (.cells cs 25 fr) ∧ z ≤ b ∧ ∀ k, k < 4 → ∃ rv, w.cell? ⟨b, k, none⟩ = some rv ∧ IV z w rv (snapL s k) ∧ (s.b k = false → rv = .slice none 0 0)
theorem SR.below {w w' : World} {v : Value} {s : Vol} (h : SR z w v s) (hb : Below w.heap.size w w') : SR z w' v s := by
  obtain ⟨b, cap, cs, fr, h1, h2, h3, h4, h5, h6⟩ := h
  refine ⟨b, cap, cs, fr, h1, h2, h3, (hb.block _ (lt_of_heap h4)).trans h4, h5, fun k hk => ?_⟩
  obtain ⟨rv, k1, k2, k3⟩ := h6 k hk
  exact ⟨rv, (hb.cell (p := ⟨b, k, none⟩) (lt_of_heap h4)).trans k1, k2.below hb, k3⟩
theorem SR.set {w : World} {v : Value} {s : Vol} (h : SR z w v s) {g o : Nat} {u : Value} {cs' : Array Value} {T : TypeId} {fr' : Nat × Nat} (hg : w.heap[g]? = some (.cells cs' T fr')) (h1 : T ≠ 3) (h2 : T ≠ 25) : SR z (w.setCell ⟨g, o, none⟩ u) v s := by
  obtain ⟨b, cap, cs, fr, e1, e2, e3, e4, e5, e6⟩ := h
  have hne : b ≠ g := fun e => by
    subst e
    rw [hg] at e4
    simp only [Option.some.injEq, Obj.cells.injEq] at e4
    exact h2 e4.2.1
  refine ⟨b, cap, cs, fr, e1, e2, e3, (heap_setCell_other w ⟨g, o, none⟩ b u hne).trans e4, e5, fun k hk => ?_⟩
  obtain ⟨rv, k1, k2, k3⟩ := e6 k hk
  exact ⟨rv, (World.cell?_setCell_other _ _ _ _ (fun e => by simp only [Addr.mk.injEq] at e; exact hne e.1.symm)).trans k1, k2.set hg h1, k3⟩
theorem IV.grown {w w' : World} {g : Nat} {v : Value} {L : List Int} (h : IV (g + 1) w v L) (hg : w.grownBy w' (some g)) : IV (g + 1) w' v L := by
  have hb : ∀ a n c, v = .slice (some a) n c → w'.heap[a.block]? = w.heap[a.block]? := fun a n c e => by
    obtain ⟨cs, fr, hh⟩ := h.row a n c e
    exact hg.block _ (lt_of_heap hh) (by have := h.lo a n c e; simp; omega)
  refine ⟨?_, fun a n c e => ?_, h.lo⟩
  · obtain ⟨a, cap, rfl, h2, h3, h4⟩ := h.is
    refine ⟨a, cap, rfl, h2, h3, fun h0 => ?_⟩
    obtain ⟨b, off, rfl, h5, h6⟩ := h4 h0
    exact ⟨b, off, rfl, Nat.lt_of_lt_of_le h5 hg.size, fun j x hj => (World.cell?_of_block (a := ⟨b, off + j, none⟩) (hb ⟨b, off, none⟩ L.length cap rfl)).trans (h6 j x hj)⟩
  · obtain ⟨cs, fr, hh⟩ := h.row a n c e
    exact ⟨cs, fr, (hb a n c e).trans hh⟩
theorem SR.grown {w w' : World} {g : Nat} {v : Value} {s : Vol} (h : SR (g + 1) w v s) (hg : w.grownBy w' (some g)) : SR (g + 1) w' v s := by
  obtain ⟨b, cap, cs, fr, e1, e2, e3, e4, e5, e6⟩ := h
  have hb : w'.heap[b]? = w.heap[b]? := hg.block _ (lt_of_heap e4) (by simp; omega)
  refine ⟨b, cap, cs, fr, e1, e2, e3, hb.trans e4, e5, fun k hk => ?_⟩
  obtain ⟨rv, k1, k2, k3⟩ := e6 k hk
  exact ⟨rv, (World.cell?_of_block (a := ⟨b, k, none⟩) hb).trans k1, k2.grown hg, k3⟩
/-- only what the snapshots are matters -/
theorem SR.same {w : World} {v : Value} {s s' : Vol} (h : SR z w v s) (hp : ∀ k, k < 4 → s'.p k = s.p k ∧ s'.b k = s.b k) : SR z w v s' := by
  obtain ⟨b, cap, cs, fr, e1, e2, e3, e4, e5, e6⟩ := h
  refine ⟨b, cap, cs, fr, e1, e2, e3, e4, e5, fun k hk => ?_⟩
  obtain ⟨rv, k1, k2, k3⟩ := e6 k hk
  obtain ⟨h1, h2⟩ := hp k hk
  refine ⟨rv, k1, ?_, by rw [h2]; exact k3⟩
  unfold snapL at k2 ⊢
  rw [h1, h2]
  exact k2

theorem cells2 {w : World} {g : Nat} {T : TypeId} {a0 a1 : Value} (h : w.heap[g]? = some (.cells #[a0, a1] T (0, 0))) : (w.cell? ⟨g, 0, none⟩ = some a0 ∧ w.cell? ⟨g, 1, none⟩ = some a1) ∧ (w.frozen? ⟨g, 0, none⟩ = false ∧ w.frozen? ⟨g, 1, none⟩ = false) := by
  refine ⟨⟨?_, ?_⟩, ⟨?_, ?_⟩⟩ <;> first | (unfold World.cell?; simp only; rw [h]; rfl) | (unfold World.frozen?; simp only; rw [h]; rfl)
theorem infoPlanes : (Tryd.prog.info? 46).map (·.size) = some 2 := by kernel_rfl
theorem load_planes {w : World} {g : Nat} {v1 v2 : Value} (hh : w.heap[g]? = some (.cells #[v1, v2] 46 (0, 0))) : (loadVar 46 ⟨g, 0, none⟩).run Tryd.prog w = .ok (.agg #[v1, v2]) w :=
  run_loadVar_row w g 46 46 #[v1, v2] (0, 0) _ hh Tryd.underlying46 rfl infoPlanes

end Go.Proofs.YtegibgflhhdddaaDoor
