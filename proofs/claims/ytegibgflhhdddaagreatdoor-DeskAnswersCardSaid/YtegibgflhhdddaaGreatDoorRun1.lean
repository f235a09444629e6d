/- Run: what lies while it goes through the lines. -/
import Derived.Test.YtegibgflhhdddaaGreatDoorDesk4
import Derived.Test.YtegibgflhhdddaaGreatDoorBldByte
import Derived.Test.YtegibgflhhdddaaGreatDoorOpenWalk
namespace Go.Proofs.YtegibgflhhdddaaGreatDoor
open Go.RowKit Go.Shelf
attribute [local go_sem] Oper.semAt_some

structure RunAt (w0 W : World) (z g : Nat) (b : Bk) (out : List UInt8) : Prop where
  desk : DeskAt W (z + 1) g b
  lo : z ≤ g
  bld : Bld W 31 2 (z + 4) (z + 2) 0 out
  box : ∃ v, Boxed W (z + 3) 9 v
  far : ∀ x, BkOwn W g x → bldRow W (z + 2) 0 ≠ some x
  below : Below z w0 W

theorem Bld.row_cells {w : World} {T cells base b off : Nat} {l : List UInt8} (h : Bld w T cells base b off l) {k : Nat} (hk : bldRow w b off = some k) : ∃ cs fr, w.heap[k]? = some (.cells cs 5 fr) ∧ base ≤ k := by
  obtain ⟨v, h1, h2⟩ := h.row
  have h3 := (h.addr_block h1).2
  have h4 : v.ownBlock = some k := by rw [← h3.2]; exact hk
  rcases h2.2 with ⟨rfl, -⟩ | ⟨g', cap', cur', fz, rfl, -, hg, -⟩
  · cases h4
  · simp only [Value.ownBlock, Option.some.injEq] at h4
    subst h4
    exact ⟨_, _, hg, (h3.1 _ rfl).1⟩
theorem Bld.own_cells {w : World} {T cells base b off : Nat} {l : List UInt8} (h : Bld w T cells base b off l) : ∃ cs fr, w.heap[b]? = some (.cells cs T fr) := by
  have hs := h.shape
  cases hh : w.heap[b]? with
  | none => simp [World.shape?, hh] at hs
  | some o =>
    cases o with
    | cells cs t fr =>
      simp [World.shape?, hh] at hs
      exact ⟨cs, fr, by rw [← hs.1]⟩
    | _ => simp [World.shape?, hh] at hs

theorem RunAt.bld_far {w0 W : World} {z g : Nat} {b : Bk} {out : List UInt8} (h : RunAt w0 W z g b out) : ¬ BkOwn W g (z + 2) := fun ho => by
  obtain ⟨cs, fr, hh⟩ := h.bld.own_cells
  obtain ⟨cs', t', fr', hh', ht⟩ := h.desk.book.own_cells ho
  rw [hh] at hh'
  simp only [Option.some.injEq, Obj.cells.injEq] at hh'
  obtain ⟨-, rfl, -⟩ := hh'
  rcases ht with ht | ht | ht <;> exact absurd ht (by decide)
theorem RunAt.box_far {w0 W : World} {z g : Nat} {b : Bk} {out : List UInt8} (h : RunAt w0 W z g b out) : ¬ BkOwn W g (z + 3) := by
  obtain ⟨v, hv⟩ := h.box
  exact h.desk.book.far_own hv (by decide) (by decide) (by decide)

/-- where all cells but the iterator's box stay -/
theorem RunAt.same {w0 W W' : World} {z g : Nat} {b : Bk} {out : List UInt8} (h : RunAt w0 W z g b out) (hz : W.heap.size ≤ W'.heap.size) (hk : ∀ (x : Nat) (o : Obj), W.heap[x]? = some o → o.isCells = true → x ≠ z + 3 → W'.heap[x]? = W.heap[x]?)
    (hb : ∃ v, Boxed W' (z + 3) 9 v) (hl : Below z W W') : RunAt w0 W' z g b out := by
  have hown : ∀ x, BkOwn W g x → W'.heap[x]? = W.heap[x]? := fun x hx => by
    obtain ⟨cs, t, fr, hh, -⟩ := h.desk.book.own_cells hx
    exact hk x _ hh rfl (fun e => h.box_far (by rw [← e]; exact hx))
  obtain ⟨k1, k2⟩ := h.desk.book.keep hz hown
  obtain ⟨cs, fr, hbc⟩ := h.bld.own_cells
  obtain ⟨m1, m2⟩ := h.bld.block hz (hk _ _ hbc rfl (by omega)) (fun k hk' => by
    obtain ⟨cs', fr', hc, hge⟩ := h.bld.row_cells hk'
    exact hk k _ hc rfl (by omega))
  exact ⟨⟨(hk _ _ h.desk.box rfl (by omega)).trans h.desk.box, k1⟩, h.lo, m1, hb, fun x hx => by rw [m2]; exact h.far x ((k2 x).1 hx), h.below.trans hl⟩

theorem RunAt.drew {w0 W : World} {z g : Nat} {b : Bk} {out : List UInt8} (h : RunAt w0 W z g b out) : RunAt w0 W.drew z g b out := by
  obtain ⟨v, hv⟩ := h.box
  exact h.same (Nat.le_refl _) (fun _ _ _ _ _ => rfl) ⟨v, hv⟩ (Below.refl _ _).drew
theorem RunAt.boxed {w0 W : World} {z g : Nat} {b : Bk} {out : List UInt8} (h : RunAt w0 W z g b out) (v : Value) : RunAt w0 (W.setCell ⟨z + 3, 0, none⟩ v) z g b out := by
  obtain ⟨v0, hv⟩ := h.box
  exact h.same (by simp) (fun x _ _ _ hx => heap_setCell_other W ⟨z + 3, 0, none⟩ x v hx) ⟨v, hv.set v⟩ ((Below.refl z W).setCell (p := ⟨z + 3, 0, none⟩) (by simp) v)
theorem RunAt.grown {w0 W W' : World} {z B g : Nat} {b : Bk} {out : List UInt8} {row : Option Nat} (h : RunAt w0 W z g b out) (hB : z ≤ B) (hg : W.grownBy W' row) (hr : ∀ r, row = some r → B ≤ r ∧ ∃ o : Obj, W.heap[r]? = some o ∧ o.isCells = false) : RunAt w0 W' z g b out := by
  have hk : ∀ (x : Nat) (o : Obj), W.heap[x]? = some o → o.isCells = true → W'.heap[x]? = W.heap[x]? := fun x o hx ho => grownBy_keeps_cells hg (fun r e => (hr r e).2) hx ho
  obtain ⟨v, hv⟩ := h.box
  have hz : Below z W W' := (Below.refl z W).grown hg (by have := hv.lt; omega) (fun r e => Nat.le_trans hB (hr r e).1)
  exact h.same hz.size (fun x o hx ho _ => hk x o hx ho) ⟨v, (hk _ _ hv rfl).trans hv⟩ hz

/-- a line was answered -/
theorem RunAt.lined {w0 W W' : World} {z g g' : Nat} {b b' : Bk} {out : List UInt8} (h : RunAt w0 W z g b out) (hd : DeskAt W' (z + 1) g' b') (hf : DkFrame W W' (z + 1) g g') :
    RunAt w0 W' z g' b' out ∧ KeepsOthers W W' ∧ W'.heap[z + 3]? = W.heap[z + 3]? := by
  obtain ⟨v, hv⟩ := h.box
  have h3 : W'.heap[z + 3]? = W.heap[z + 3]? := hf.blocks _ hv.lt h.box_far (by omega)
  obtain ⟨cs, fr, hbc⟩ := h.bld.own_cells
  have hrow : ∀ k, bldRow W (z + 2) 0 = some k → k < W.heap.size ∧ ¬ BkOwn W g k ∧ k ≠ z + 1 := fun k hk => by
    obtain ⟨cs', fr', hc, hge⟩ := h.bld.row_cells hk
    exact ⟨(Array.getElem?_eq_some_iff.1 hc).1, fun ho => h.far k ho hk, by omega⟩
  obtain ⟨m1, m2⟩ := h.bld.block hf.size (hf.blocks _ (Array.getElem?_eq_some_iff.1 hbc).1 h.bld_far (by omega)) (fun k hk => hf.blocks k (hrow k hk).1 (hrow k hk).2.1 (hrow k hk).2.2)
  refine ⟨⟨hd, Nat.le_trans h.lo hf.le, m1, ⟨v, h3.trans hv⟩, fun x hx e => ?_, h.below.trans (hf.below z h.lo (by omega))⟩, ⟨hf.size, fun x o hx ho => ?_⟩, h3⟩
  · rw [m2] at e
    rcases hf.own x hx with ho | ho
    · exact h.far x ho e
    · have := (hrow x e).1
      omega
  · refine (hf.blocks x (Array.getElem?_eq_some_iff.1 hx).1 (fun hown => ?_) (fun e => ?_)).trans hx
    · obtain ⟨cs', t', fr', hh, -⟩ := h.desk.book.own_cells hown
      rw [hx] at hh
      cases hh
      cases ho
    · subst e
      rw [h.desk.box] at hx
      cases hx
      cases ho

/-- something was written into the builder -/
theorem RunAt.wrote {w0 W W' : World} {z g : Nat} {b : Bk} {out out' : List UInt8} (h : RunAt w0 W z g b out) (hb : Bld W' 31 2 (z + 4) (z + 2) 0 out') (hf : BldFrame W W' (z + 4) (z + 2) 0) :
    RunAt w0 W' z g b out' ∧ KeepsOthers W W' ∧ W'.heap[z + 3]? = W.heap[z + 3]? := by
  obtain ⟨v, hv⟩ := h.box
  have hrow : ∀ k, bldRow W (z + 2) 0 = some k → z + 4 ≤ k := fun k hk => (h.bld.row_cells hk).elim fun _ h => h.elim fun _ h => h.2
  have h3 : W'.heap[z + 3]? = W.heap[z + 3]? := hf.blocks _ hv.lt (by omega) (fun e => by have := hrow _ e; omega)
  have h1 : W'.heap[z + 1]? = W.heap[z + 1]? := hf.blocks _ h.desk.box.lt (by omega) (fun e => by have := hrow _ e; omega)
  obtain ⟨k1, k2⟩ := h.desk.book.keep hf.size (fun x hx => hf.blocks x (h.desk.book.own_lt hx).2 (fun e => h.bld_far (by rw [← e]; exact hx)) (h.far x hx))
  refine ⟨⟨⟨h1.trans h.desk.box, k1⟩, h.lo, hb, ⟨v, h3.trans hv⟩, fun x hx e => ?_, h.below.trans (hf.below z (by omega) (by omega))⟩, ⟨hf.size, fun x o hx ho => ?_⟩, h3⟩
  · have hx0 := (k2 x).1 hx
    rcases hf.row with e' | e'
    · rw [e'] at e
      exact h.far x hx0 e
    · have := e' x e
      have := (h.desk.book.own_lt hx0).2
      omega
  · refine (hf.blocks x (Array.getElem?_eq_some_iff.1 hx).1 (fun e => ?_) (fun e => ?_)).trans hx
    · subst e
      obtain ⟨cs, fr, hbc⟩ := h.bld.own_cells
      rw [hbc] at hx
      cases hx
      cases ho
    · obtain ⟨cs', fr', hc, -⟩ := h.bld.row_cells e
      rw [hc] at hx
      cases hx
      cases ho

/-- between two rounds -/
structure RunI (t : List UInt8) (w0 : World) (z k : Nat) (W : World) : Prop where
  le : k ≤ (deskLines t).length
  is : ∃ g, RunAt w0 W z g (sessB Bk.new ((deskLines t).take k)) (sessT Bk.new ((deskLines t).take k))

theorem RunI.drew {t : List UInt8} {w0 W : World} {z k : Nat} (h : RunI t w0 z k W) : RunI t w0 z k W.drew := by
  obtain ⟨g, h1⟩ := h.is
  exact ⟨h.le, g, h1.drew⟩
theorem RunI.boxed {t : List UInt8} {w0 W : World} {z k : Nat} (h : RunI t w0 z k W) (v : Value) : RunI t w0 z k (W.setCell ⟨z + 3, 0, none⟩ v) := by
  obtain ⟨g, h1⟩ := h.is
  exact ⟨h.le, g, h1.boxed v⟩
theorem RunI.from (t : List UInt8) (w0 : World) (z B : Nat) (hB : z ≤ B) : OwnFrom B (fun k W => RunI t w0 z k W) := fun _ W W' row h hg hr => by
  obtain ⟨g, h1⟩ := h.is
  exact ⟨h.le, g, h1.grown hB hg hr⟩

end Go.Proofs.YtegibgflhhdddaaGreatDoor
