/- The reference's flash in its variable, and what Write's loops count. -/
import Derived.Test.YtegibgflhhdddaaDoorFRef2
import Derived.Test.YtegibgflhhdddaaDoorFtl5
namespace Go.Proofs.YtegibgflhhdddaaDoor
open Go.RowKit Ftl

/-- where the walk of Write stands: the flash's row, and the answer's -/
structure FBox (z : Nat) (w wr : World) (g : Nat) (r : RF) : Prop where
  box : ∃ v1 v2 v3 v4 v5, wr.heap[g]? = some (.cells #[v1, v2, v3, v4, v5, .int .i64 (r.act : Nat)] 27 (0, 0)) ∧ FRIs z wr v1 v2 v3 v4 v5 r
  res : wr.heap[g + 1]? = some (.cells #[.slice none 0 0, .slice none 0 0, .slice none 0 0, .slice none 0 0, .slice none 0 0, .int .i64 0] 27 (0, 0))
  lo : w.heap.size ≤ g
  below : Below w.heap.size w wr
variable {z : Nat}

theorem FBox.later {w wr wx : World} {g : Nat} {r : RF} (h : FBox z w wr g r) (hb : Below wr.heap.size wr wx) : FBox z w wx g r := by
  obtain ⟨v1, v2, v3, v4, v5, h1, h2⟩ := h.box
  exact ⟨⟨v1, v2, v3, v4, v5, (hb.block _ (lt_of_heap h1)).trans h1, h2.below hb⟩, (hb.block _ (lt_of_heap h.res)).trans h.res, h.lo, h.below.trans (hb.mono h.below.size)⟩
theorem FBox.drewN {w wr : World} {g : Nat} {r : RF} (h : FBox z w wr g r) (n : Nat) : FBox z w (wr.drewN n) g r := h.later (below_drewN' wr n)

theorem FBox.open' {w wr : World} {g : Nat} {r : RF} (h : FBox z w wr g r) : ∃ a1 m1 a2 m2 a3 m3 a4 m4 a5 m5, wr.heap[g]? = some (.cells #[.slice a1 r.L.length m1, .slice a2 r.L.length m2, .slice a3 r.L.length m3, .slice a4 r.many.length m4, .slice a5 r.er.length m5, .int .i64 (r.act : Nat)] 27 (0, 0)) ∧
    FRIs z wr (.slice a1 r.L.length m1) (.slice a2 r.L.length m2) (.slice a3 r.L.length m3) (.slice a4 r.many.length m4) (.slice a5 r.er.length m5) r := by
  obtain ⟨v1, v2, v3, v4, v5, h1, h2⟩ := h.box
  obtain ⟨a1, n1, m1, rfl, e1⟩ := h2.r1.sl
  obtain ⟨a2, n2, m2, rfl, e2⟩ := h2.r2.sl
  obtain ⟨a3, n3, m3, rfl, e3⟩ := h2.r3.sl
  obtain ⟨a4, n4, m4, rfl, e4⟩ := h2.r4.sl
  obtain ⟨a5, n5, m5, rfl, e5⟩ := h2.r5.sl
  rw [List.length_map] at e1 e2 e3
  rw [natsI_length] at e4 e5
  subst e1 e2 e3 e4 e5
  exact ⟨a1, m1, a2, m2, a3, m3, a4, m4, a5, m5, h1, h2⟩

theorem FBox.setAct {w wr : World} {g : Nat} {r : RF} (h : FBox z w wr g r) (a : Nat) : FBox z w (wr.setCell ⟨g, 5, none⟩ (.int .i64 (a : Nat))) g { r with act := a } := by
  obtain ⟨v1, v2, v3, v4, v5, h1, h2⟩ := h.box
  have h3 := h2.set (o := 5) (u := .int .i64 (a : Nat)) h1
  exact ⟨⟨v1, v2, v3, v4, v5, heap_setCell_same wr g 5 _ _ _ h1, ⟨h3.r1, h3.r2, h3.r3, h3.r4, h3.r5, h3.n1, h3.n2, h3.n3⟩⟩, (heap_setCell_other wr ⟨g, 5, none⟩ (g + 1) _ (by simp only; omega)).trans h.res, h.lo, h.below.setCell (p := ⟨g, 5, none⟩) h.lo _⟩
theorem FBox.setMany {w wr : World} {g : Nat} {r : RF} (h : FBox z w wr g r) {v : Value} {m : List Nat} (hv : IV z wr v (natsI m)) : FBox z w (wr.setCell ⟨g, 3, none⟩ v) g { r with many := m } := by
  obtain ⟨v1, v2, v3, v4, v5, h1, h2⟩ := h.box
  have h3 := h2.set (o := 3) (u := v) h1
  exact ⟨⟨v1, v2, v3, v, v5, heap_setCell_same wr g 3 _ _ _ h1, ⟨h3.r1, h3.r2, h3.r3, hv.set h1 (by decide), h3.r5, h3.n1, h3.n2, h3.n3⟩⟩, (heap_setCell_other wr ⟨g, 3, none⟩ (g + 1) _ (by simp only; omega)).trans h.res, h.lo, h.below.setCell (p := ⟨g, 3, none⟩) h.lo _⟩
theorem FBox.setEr {w wr : World} {g : Nat} {r : RF} (h : FBox z w wr g r) {v : Value} {m : List Nat} (hv : IV z wr v (natsI m)) : FBox z w (wr.setCell ⟨g, 4, none⟩ v) g { r with er := m } := by
  obtain ⟨v1, v2, v3, v4, v5, h1, h2⟩ := h.box
  have h3 := h2.set (o := 4) (u := v) h1
  exact ⟨⟨v1, v2, v3, v4, v, heap_setCell_same wr g 4 _ _ _ h1, ⟨h3.r1, h3.r2, h3.r3, h3.r4, hv.set h1 (by decide), h3.n1, h3.n2, h3.n3⟩⟩, (heap_setCell_other wr ⟨g, 4, none⟩ (g + 1) _ (by simp only; omega)).trans h.res, h.lo, h.below.setCell (p := ⟨g, 4, none⟩) h.lo _⟩
theorem FBox.setBlock {w wr : World} {g : Nat} {r : RF} (h : FBox z w wr g r) {v : Value} {M : List Ent} (hv : IV z wr v (M.map fun e => e.1)) (hM : M.map (·.2) = r.L.map (·.2)) (hne : M ≠ []) : FBox z w (wr.setCell ⟨g, 0, none⟩ v) g { r with L := M } := by
  obtain ⟨v1, v2, v3, v4, v5, h1, h2⟩ := h.box
  have h3 := h2.set (o := 0) (u := v) h1
  have e1 : M.map (fun e => (e.2.1 : Int)) = r.L.map fun e => (e.2.1 : Int) := by
    have := congrArg (List.map fun p : Page => (p.1 : Int)) hM
    rw [List.map_map, List.map_map] at this
    exact this
  have e2 : M.map (fun e => e.2.2) = r.L.map fun e => e.2.2 := by
    have := congrArg (List.map fun p : Page => p.2) hM
    rw [List.map_map, List.map_map] at this
    exact this
  exact ⟨⟨v, v2, v3, v4, v5, heap_setCell_same wr g 0 _ _ _ h1, ⟨hv.set h1 (by decide), by rw [e1]; exact h3.r2, by rw [e2]; exact h3.r3, h3.r4, h3.r5, fun e => absurd e hne, fun e => absurd e hne, fun e => absurd e hne⟩⟩, (heap_setCell_other wr ⟨g, 0, none⟩ (g + 1) _ (by simp only; omega)).trans h.res, h.lo, h.below.setCell (p := ⟨g, 0, none⟩) h.lo _⟩
theorem FBox.setAll {w wr wx : World} {g : Nat} {r r' : RF} {u1 u2 u3 u4 u5 : Value} (h : FBox z w wr g r) (hr : FRIs z wr u1 u2 u3 u4 u5 r')
    (hw : wx = (((((wr.setCell ⟨g, 0, none⟩ u1).setCell ⟨g, 1, none⟩ u2).setCell ⟨g, 2, none⟩ u3).setCell ⟨g, 3, none⟩ u4).setCell ⟨g, 4, none⟩ u5).setCell ⟨g, 5, none⟩ (.int .i64 (r'.act : Nat))) : FBox z w wx g r' := by
  obtain ⟨v1, v2, v3, v4, v5, h1, h2⟩ := h.box
  have q0 := heap_setCell_same wr g 0 _ _ u1 h1
  have q1 := heap_setCell_same _ g 1 _ _ u2 q0
  have q2 := heap_setCell_same _ g 2 _ _ u3 q1
  have q3 := heap_setCell_same _ g 3 _ _ u4 q2
  have q4 := heap_setCell_same _ g 4 _ _ u5 q3
  have hz : ∀ (w0 : World) (o : Nat) (u : Value), (w0.setCell ⟨g, o, none⟩ u).heap[g + 1]? = w0.heap[g + 1]? := fun w0 o u => heap_setCell_other w0 ⟨g, o, none⟩ (g + 1) u (by simp only; omega)
  refine ⟨⟨u1, u2, u3, u4, u5, by rw [hw]; exact fill6 h1 _ _ _ _ _ _, ?_⟩, ?_, h.lo, ?_⟩
  · rw [hw]
    exact (((((hr.set h1).set q0).set q1).set q2).set q3).set q4
  · rw [hw, hz, hz, hz, hz, hz, hz]
    exact h.res
  · rw [hw]
    exact (((((h.below.setCell (p := ⟨g, 0, none⟩) h.lo _).setCell (p := ⟨g, 1, none⟩) h.lo _).setCell (p := ⟨g, 2, none⟩) h.lo _).setCell (p := ⟨g, 3, none⟩) h.lo _).setCell (p := ⟨g, 4, none⟩) h.lo _).setCell (p := ⟨g, 5, none⟩) h.lo _

namespace Ftl
theorem emptyTo_yes {r : RF} {k : Nat} (h : r.manyAt k = 0) : r.emptyTo (k + 1) = r.emptyTo k ++ [k] := by
  unfold RF.emptyTo
  rw [List.range_succ, List.filter_append]
  simp [h]
theorem emptyTo_no {r : RF} {k : Nat} (h : r.manyAt k ≠ 0) : r.emptyTo (k + 1) = r.emptyTo k := by
  unfold RF.emptyTo
  rw [List.range_succ, List.filter_append]
  simp [h]
theorem emptyTo_len (r : RF) (k : Nat) : (r.emptyTo k).length ≤ k := by
  unfold RF.emptyTo
  exact Nat.le_trans (List.length_filter_le _ _) (by simp)
theorem bestTo_is (r : RF) (k : Nat) : (r.emptyTo k = [] ∧ r.bestTo k = -1) ∨ ∃ m, m < k ∧ r.emptyTo k ≠ [] ∧ r.bestTo k = (m : Int) ∧ m = pick r.erAt (r.emptyTo k) := by
  unfold RF.bestTo
  by_cases h : r.emptyTo k = []
  · rw [if_pos h]
    exact .inl ⟨h, rfl⟩
  · rw [if_neg h]
    refine .inr ⟨_, ?_, h, rfl, rfl⟩
    have := pick_mem r.erAt h
    unfold RF.emptyTo at this ⊢
    exact List.mem_range.1 (List.mem_filter.1 this).1
theorem bestTo_no {r : RF} {k : Nat} (h : r.manyAt k ≠ 0) : r.bestTo (k + 1) = r.bestTo k := by
  unfold RF.bestTo
  rw [emptyTo_no h]
theorem bestTo_first {r : RF} {k : Nat} (h : r.manyAt k = 0) (h0 : r.emptyTo k = []) : r.bestTo (k + 1) = (k : Int) := by
  unfold RF.bestTo
  rw [emptyTo_yes h, h0]
  rfl
theorem bestTo_next {r : RF} {k m : Nat} (h : r.manyAt k = 0) (h0 : r.emptyTo k ≠ []) (hm : m = pick r.erAt (r.emptyTo k)) : r.bestTo (k + 1) = if r.erAt k < r.erAt m then (k : Int) else (m : Int) := by
  unfold RF.bestTo
  rw [emptyTo_yes h, if_neg (by simp), pick_snoc _ h0, hm]
  split <;> rfl
theorem SimP.bestSix {s : Fl} {r : RF} (h : Sim s r) (hok : Ok s) : r.bestTo 6 = (r.best : Int) ∧ r.best < 6 := by
  have h1 : r.emptyTo 6 ≠ [] := by rw [h.empties]; exact hok.empties_ne
  unfold RF.bestTo
  rw [if_neg h1]
  exact ⟨rfl, by rw [h.best]; exact hok.best_is.1⟩
theorem gone_is {s : Fl} {r : RF} (h : Sim s r) (hok : Ok s) (k : Nat) (hk : k ≤ 6) : goneTo r.L r.best k = -1 ∨ ∃ m : Nat, m < k ∧ goneTo r.L r.best k = (m : Int) := by
  rw [h.goneTo hok k hk]
  obtain ⟨h1, h2, -⟩ := Fl.worstTo_bounds s.turn k
  by_cases h3 : s.turn.worstTo k = -1
  · exact .inl h3
  · exact .inr ⟨(s.turn.worstTo k).toNat, by omega, by omega⟩

/-- the first k writings marked -/
def markTo (g k : Nat) (L : List Ent) : List Ent := mark g (L.take k) ++ L.drop k
theorem markTo_zero (g : Nat) (L : List Ent) : markTo g 0 L = L := rfl
theorem markTo_all (g : Nat) (L : List Ent) : markTo g L.length L = mark g L := by unfold markTo; rw [List.take_length, List.drop_length, List.append_nil]
theorem markTo_len (g k : Nat) (L : List Ent) : (markTo g k L).length = L.length := by
  unfold markTo
  rw [List.length_append, mark_length, List.length_take, List.length_drop]
  omega
theorem markTo_snd (g k : Nat) (L : List Ent) : (markTo g k L).map (·.2) = L.map (·.2) := by
  have h : (mark g (L.take k)).map (·.2) = (L.take k).map (·.2) := by
    unfold mark
    rw [List.map_map]
    refine List.map_congr_left fun e _ => ?_
    simp only [Function.comp]
    split <;> rfl
  unfold markTo
  rw [List.map_append, h, ← List.map_append, List.take_append_drop]
theorem markTo_at {g k : Nat} {L : List Ent} {e : Ent} (h : L[k]? = some e) : (markTo g k L)[k]? = some e := by
  have hk := (List.getElem?_eq_some_iff.1 h).1
  unfold markTo
  rw [List.getElem?_append_right (by rw [mark_length, List.length_take]; omega), mark_length, List.length_take, Nat.min_eq_left (by omega), Nat.sub_self, List.getElem?_drop]
  exact h
theorem markTo_succ {g k : Nat} {L : List Ent} {e : Ent} (h : L[k]? = some e) : markTo g (k + 1) L = mark g (L.take k) ++ (if e.1 = (g : Int) then (-1, e.2) else e) :: L.drop (k + 1) := by
  obtain ⟨hk, he⟩ := List.getElem?_eq_some_iff.1 h
  unfold markTo
  rw [List.take_succ_eq_append_getElem hk, he]
  unfold mark
  rw [List.map_append, List.append_assoc]
  rfl
theorem markTo_cut {g k : Nat} {L : List Ent} {e : Ent} (h : L[k]? = some e) : markTo g k L = mark g (L.take k) ++ e :: L.drop (k + 1) := by
  obtain ⟨hk, he⟩ := List.getElem?_eq_some_iff.1 h
  unfold markTo
  rw [List.drop_eq_getElem_cons hk, he]
theorem markTo_no {g k : Nat} {L : List Ent} {e : Ent} (h : L[k]? = some e) (hne : e.1 ≠ (g : Int)) : markTo g (k + 1) L = markTo g k L := by
  rw [markTo_succ h, markTo_cut h, if_neg hne]
theorem markTo_yes {g k : Nat} {L : List Ent} {e : Ent} (h : L[k]? = some e) (he : e.1 = (g : Int)) : (markTo g (k + 1) L).map (fun e => e.1) = ((markTo g k L).map fun e => e.1).set k (-1) := by
  have hk := (List.getElem?_eq_some_iff.1 h).1
  rw [markTo_succ h, markTo_cut h, if_pos he, List.map_append, List.map_append, List.set_append_right _ _ (by rw [List.length_map, mark_length, List.length_take]; omega)]
  congr 1
  rw [List.length_map, mark_length, List.length_take, Nat.min_eq_left (by omega), Nat.sub_self]
  rfl
end Ftl

end Go.Proofs.YtegibgflhhdddaaDoor
