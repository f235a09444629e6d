/- Open: what lies while it goes through the lines. -/
import Derived.Test.YtegibgflhhdddaaGreatDoorOpenMath
namespace Go.Proofs.YtegibgflhhdddaaGreatDoor
open Go.RowKit Go.Shelf
attribute [local go_sem] Oper.semAt_some

theorem BookAt.own_cells {w : World} {g : Nat} {B : List Nat} {G : List (Nat × Nat)} {txt : List UInt8} {m : Nat} (h : BookAt w g B G txt m) {x : Nat} (hx : BkOwn w g x) : ∃ cs t fr, w.heap[x]? = some (.cells cs t fr) ∧ (t = 51 ∨ t = 94 ∨ t = 5) := by
  rcases hx with rfl | hr | hr
  · have hs := h.bld.shape
    cases hh : w.heap[x]? with
    | none => simp [World.shape?, hh] at hs
    | some o =>
      cases o with
      | cells cs t fr =>
        simp [World.shape?, hh] at hs
        exact ⟨cs, t, fr, rfl, .inl hs.1⟩
      | _ => simp [World.shape?, hh] at hs
  · obtain ⟨v, e1, e2⟩ := h.grp
    have e3 : v.ownBlock = some x := by simpa [grpRow, e1] using hr
    rcases e2.2 with ⟨rfl, -⟩ | ⟨y, cap, cur, rfl, -, hy, -⟩
    · cases e3
    · simp only [Value.ownBlock, Option.some.injEq] at e3
      subst e3
      exact ⟨_, _, _, hy, .inr (.inl rfl)⟩
  · obtain ⟨v, e1, e2⟩ := h.bld.row
    have e3 : v.ownBlock = some x := by rw [← (h.bld.addr_block e1).2.2]; exact hr
    rcases e2.2 with ⟨rfl, -⟩ | ⟨y, cap, cur, fz, rfl, -, hy, -⟩
    · cases e3
    · simp only [Value.ownBlock, Option.some.injEq] at e3
      subst e3
      exact ⟨_, _, _, hy, .inr (.inr rfl)⟩
theorem BookAt.far_own {w : World} {g : Nat} {B : List Nat} {G : List (Nat × Nat)} {txt : List UInt8} {m : Nat} (h : BookAt w g B G txt m) {x : Nat} {t : TypeId} {v : Value} (hx : Boxed w x t v) (h1 : t ≠ 51) (h2 : t ≠ 94) (h3 : t ≠ 5) : ¬ BkOwn w g x := fun ho => by
  obtain ⟨cs, t', fr, hh, ht⟩ := h.own_cells ho
  rw [show w.heap[x]? = _ from hx] at hh
  simp only [Option.some.injEq, Obj.cells.injEq] at hh
  obtain ⟨-, rfl, -⟩ := hh
  rcases ht with ht | ht | ht
  · exact h1 ht
  · exact h2 ht
  · exact h3 ht

structure OpenAt (w0 W : World) (z : Nat) (b : Bk) (k : Nat) (u2 u3 u4 : Value) : Prop where
  book : BookIs W (z + 3) b
  r2 : Boxed W z 24 u2
  r3 : Boxed W (z + 1) 3 u3
  r4 : Boxed W (z + 2) 36 u4
  bb : Boxed W (z + 4) 24 (.pointer (some ⟨z + 3, 0, none⟩))
  ff : Boxed W (z + 5) 3 (.int .i64 (k : Nat))
  box : ∃ v, Boxed W (z + 6) 9 v
  below : Below z w0 W

theorem OpenAt.move {w0 W W' : World} {z : Nat} {b b' : Bk} {k : Nat} {u2 u3 u4 : Value} (h : OpenAt w0 W z b k u2 u3 u4) (hb : BookIs W' (z + 3) b')
    (hk : ∀ x, x = z ∨ x = z + 1 ∨ x = z + 2 ∨ x = z + 4 ∨ x = z + 5 ∨ x = z + 6 → W'.heap[x]? = W.heap[x]?) (hl : Below z W W') : OpenAt w0 W' z b' k u2 u3 u4 := by
  obtain ⟨v, hv⟩ := h.box
  exact ⟨hb, (hk _ (by simp)).trans h.r2, (hk _ (by simp)).trans h.r3, (hk _ (by simp)).trans h.r4, (hk _ (by simp)).trans h.bb, (hk _ (by simp)).trans h.ff, ⟨v, (hk _ (by simp)).trans hv⟩, h.below.trans hl⟩

theorem OpenAt.far {w0 W : World} {z : Nat} {b : Bk} {k : Nat} {u2 u3 u4 : Value} (h : OpenAt w0 W z b k u2 u3 u4) (x : Nat) (hx : x = z ∨ x = z + 1 ∨ x = z + 2 ∨ x = z + 4 ∨ x = z + 5 ∨ x = z + 6) : x < W.heap.size ∧ ¬ BkOwn W (z + 3) x := by
  obtain ⟨v, hv⟩ := h.box
  rcases hx with rfl | rfl | rfl | rfl | rfl | rfl
  · exact ⟨h.r2.lt, h.book.far_own h.r2 (by decide) (by decide) (by decide)⟩
  · exact ⟨h.r3.lt, h.book.far_own h.r3 (by decide) (by decide) (by decide)⟩
  · exact ⟨h.r4.lt, h.book.far_own h.r4 (by decide) (by decide) (by decide)⟩
  · exact ⟨h.bb.lt, h.book.far_own h.bb (by decide) (by decide) (by decide)⟩
  · exact ⟨h.ff.lt, h.book.far_own h.ff (by decide) (by decide) (by decide)⟩
  · exact ⟨hv.lt, h.book.far_own hv (by decide) (by decide) (by decide)⟩

theorem OpenAt.drew {w0 W : World} {z : Nat} {b : Bk} {k : Nat} {u2 u3 u4 : Value} (h : OpenAt w0 W z b k u2 u3 u4) : OpenAt w0 W.drew z b k u2 u3 u4 :=
  h.move (h.book.later (Below.refl _ _).drew) (fun _ _ => rfl) (Below.refl _ _).drew
theorem OpenAt.lined {w0 W W' : World} {z : Nat} {b b' : Bk} {k : Nat} {u2 u3 u4 : Value} (h : OpenAt w0 W z b k u2 u3 u4) (hb : BookIs W' (z + 3) b') (hf : BkFrame W W' (z + 3)) : OpenAt w0 W' z b' k u2 u3 u4 :=
  h.move hb (fun x hx => hf.blocks x (h.far x hx).1 (h.far x hx).2) (hf.below z (by omega))

/-- a cell that is none of the book's is written -/
theorem OpenAt.put_book {w0 W : World} {z : Nat} {b : Bk} {k : Nat} {u2 u3 u4 : Value} (h : OpenAt w0 W z b k u2 u3 u4) (x : Nat) (hx : x = z ∨ x = z + 1 ∨ x = z + 2 ∨ x = z + 4 ∨ x = z + 5 ∨ x = z + 6) (v : Value) : BookIs (W.setCell ⟨x, 0, none⟩ v) (z + 3) b :=
  (h.book.keep (by simp) (fun y hy => heap_setCell_other W ⟨x, 0, none⟩ y v (fun e => (h.far x hx).2 (by subst e; exact hy)))).1
theorem OpenAt.boxed {w0 W : World} {z : Nat} {b : Bk} {k : Nat} {u2 u3 u4 : Value} (h : OpenAt w0 W z b k u2 u3 u4) (v : Value) : OpenAt w0 (W.setCell ⟨z + 6, 0, none⟩ v) z b k u2 u3 u4 := by
  obtain ⟨v0, hv⟩ := h.box
  exact ⟨h.put_book _ (by simp) v, h.r2.other (by omega) v, h.r3.other (by omega) v, h.r4.other (by omega) v, h.bb.other (by omega) v, h.ff.other (by omega) v, ⟨v, hv.set v⟩, h.below.trans ((Below.refl z W).setCell (p := ⟨z + 6, 0, none⟩) (by simp) v)⟩
theorem OpenAt.found {w0 W : World} {z : Nat} {b : Bk} {k : Nat} {u2 u3 u4 : Value} (h : OpenAt w0 W z b k u2 u3 u4) (k' : Nat) : OpenAt w0 (W.setCell ⟨z + 5, 0, none⟩ (.int .i64 (k' : Nat))) z b k' u2 u3 u4 := by
  obtain ⟨v0, hv⟩ := h.box
  exact ⟨h.put_book _ (by simp) _, h.r2.other (by omega) _, h.r3.other (by omega) _, h.r4.other (by omega) _, h.bb.other (by omega) _, h.ff.set _, ⟨v0, hv.other (by omega) _⟩, h.below.trans ((Below.refl z W).setCell (p := ⟨z + 5, 0, none⟩) (by simp) _)⟩
theorem OpenAt.set2 {w0 W : World} {z : Nat} {b : Bk} {k : Nat} {u2 u3 u4 : Value} (h : OpenAt w0 W z b k u2 u3 u4) (v : Value) : OpenAt w0 (W.setCell ⟨z, 0, none⟩ v) z b k v u3 u4 := by
  obtain ⟨v0, hv⟩ := h.box
  exact ⟨h.put_book _ (by simp) _, h.r2.set _, h.r3.other (by omega) _, h.r4.other (by omega) _, h.bb.other (by omega) _, h.ff.other (by omega) _, ⟨v0, hv.other (by omega) _⟩, h.below.trans ((Below.refl z W).setCell (p := ⟨z, 0, none⟩) (by simp) _)⟩
theorem OpenAt.set3 {w0 W : World} {z : Nat} {b : Bk} {k : Nat} {u2 u3 u4 : Value} (h : OpenAt w0 W z b k u2 u3 u4) (v : Value) : OpenAt w0 (W.setCell ⟨z + 1, 0, none⟩ v) z b k u2 v u4 := by
  obtain ⟨v0, hv⟩ := h.box
  exact ⟨h.put_book _ (by simp) _, h.r2.other (by omega) _, h.r3.set _, h.r4.other (by omega) _, h.bb.other (by omega) _, h.ff.other (by omega) _, ⟨v0, hv.other (by omega) _⟩, h.below.trans ((Below.refl z W).setCell (p := ⟨z + 1, 0, none⟩) (by simp) _)⟩
theorem OpenAt.set4 {w0 W : World} {z : Nat} {b : Bk} {k : Nat} {u2 u3 u4 : Value} (h : OpenAt w0 W z b k u2 u3 u4) (v : Value) : OpenAt w0 (W.setCell ⟨z + 2, 0, none⟩ v) z b k u2 u3 v := by
  obtain ⟨v0, hv⟩ := h.box
  exact ⟨h.put_book _ (by simp) _, h.r2.other (by omega) _, h.r3.other (by omega) _, h.r4.set _, h.bb.other (by omega) _, h.ff.other (by omega) _, ⟨v0, hv.other (by omega) _⟩, h.below.trans ((Below.refl z W).setCell (p := ⟨z + 2, 0, none⟩) (by simp) _)⟩

theorem OpenAt.grown {w0 W W' : World} {z B : Nat} {b : Bk} {k : Nat} {u2 u3 u4 : Value} {row : Option Nat} (h : OpenAt w0 W z b k u2 u3 u4) (hB : z ≤ B) (hg : W.grownBy W' row) (hr : ∀ r, row = some r → B ≤ r ∧ ∃ o : Obj, W.heap[r]? = some o ∧ o.isCells = false) : OpenAt w0 W' z b k u2 u3 u4 := by
  have hk : ∀ (x : Nat) (o : Obj), W.heap[x]? = some o → o.isCells = true → W'.heap[x]? = W.heap[x]? := fun x o hx ho => grownBy_keeps_cells hg (fun r e => (hr r e).2) hx ho
  have hz : Below z W W' := (Below.refl z W).grown hg (by have := h.r2.lt; omega) (fun r e => Nat.le_trans hB (hr r e).1)
  refine h.move (h.book.keep hz.size (fun x hx => by
    obtain ⟨cs, t, fr, hh, -⟩ := h.book.own_cells hx
    exact hk x _ hh rfl)).1 (fun x hx => ?_) hz
  obtain ⟨v, hv⟩ := h.box
  rcases hx with rfl | rfl | rfl | rfl | rfl | rfl
  · exact hk _ _ h.r2 rfl
  · exact hk _ _ h.r3 rfl
  · exact hk _ _ h.r4 rfl
  · exact hk _ _ h.bb rfl
  · exact hk _ _ h.ff rfl
  · exact hk _ _ hv rfl

/-- between two rounds -/
structure OpenI (t : List UInt8) (w0 : World) (z k : Nat) (W : World) : Prop where
  le : k ≤ (wholeLines t).length
  is : ∃ b, OpenAt w0 W z b k (.pointer none) (.int .i64 0) .nilIface ∧ b.ok ∧ Bk.new.lines ((wholeLines t).take k) = (b, 0, k)
/-- behind a way out -/
def OpenX (t : List UInt8) (w0 : World) (z : Nat) (cd : Code) (W : World) : Prop :=
  (cd = .exit 0 ∧ OpenI t w0 z (wholeLines t).length W) ∨ (cd = .ret ∧ openB t = none ∧ ∃ b k, OpenAt w0 W z b k (.pointer none) (.int .i64 (openN t : Nat)) (errV (openE t : Nat)))

theorem OpenI.drew {t : List UInt8} {w0 W : World} {z k : Nat} (h : OpenI t w0 z k W) : OpenI t w0 z k W.drew := by
  obtain ⟨b, h1, h2⟩ := h.is
  exact ⟨h.le, b, h1.drew, h2⟩
theorem OpenI.boxed {t : List UInt8} {w0 W : World} {z k : Nat} (h : OpenI t w0 z k W) (v : Value) : OpenI t w0 z k (W.setCell ⟨z + 6, 0, none⟩ v) := by
  obtain ⟨b, h1, h2⟩ := h.is
  exact ⟨h.le, b, h1.boxed v, h2⟩
theorem OpenI.from (t : List UInt8) (w0 : World) (z B : Nat) (hB : z ≤ B) : OwnFrom B (fun k W => OpenI t w0 z k W) := fun k W W' row h hg hr => by
  obtain ⟨b, h1, h2⟩ := h.is
  exact ⟨h.le, b, h1.grown hB hg hr, h2⟩
theorem OpenX.from (t : List UInt8) (w0 : World) (z B : Nat) (cd : Code) (hB : z ≤ B) : OwnFrom B (fun (_ : Unit) W => OpenX t w0 z cd W) := fun _ W W' row h hg hr => by
  rcases h with ⟨h1, h2⟩ | ⟨h1, h2, b, k, h3⟩
  · exact .inl ⟨h1, OpenI.from t w0 z B hB _ W W' row h2 hg hr⟩
  · exact .inr ⟨h1, h2, b, k, h3.grown hB hg hr⟩

theorem BkFrame.others {w w' : World} {g : Nat} {B : List Nat} {G : List (Nat × Nat)} {txt : List UInt8} {m : Nat} (h : BookAt w g B G txt m) (hf : BkFrame w w' g) : KeepsOthers w w' :=
  ⟨hf.size, fun x o hx ho => (hf.blocks x (Array.getElem?_eq_some_iff.1 hx).1 (fun hown => by
    obtain ⟨cs, t, fr, hh, -⟩ := h.own_cells hown
    rw [hx] at hh
    cases hh
    cases ho)).trans hx⟩

end Go.Proofs.YtegibgflhhdddaaGreatDoor
