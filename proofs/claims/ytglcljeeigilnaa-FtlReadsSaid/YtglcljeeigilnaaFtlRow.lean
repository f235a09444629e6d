/- The flash beside a row of integers. -/
import Derived.Test.YtglcljeeigilnaaFtlEr
namespace Go.Proofs.Ytglcljeeigilnaa
open Go.RowKit Ftl

theorem FlashIs.beside {w w' : World} {B base g L : Nat} {s : Fl} {cur : Array Value} {fr : Nat × Nat} (h : FlashIs w B base g s) (hL : w.heap[L]? = some (.cells cur 3 fr)) (hLg : L ≠ g) (hg : w.grownBy w' (some L)) : FlashIs w' B base g s := by
  have lo := h.lo
  have hgw : g < w.heap.size := by omega
  have hgne : some g ≠ some L := by simp; omega
  obtain ⟨V, hV, hne⟩ := h.rows
  refine ⟨h.blen, h.llen, h.elen, h.act, ⟨lo.1, lo.2.1, Nat.le_trans lo.2.2 hg.size⟩, ⟨V, fun b hb6 => ⟨?_, ?_⟩, hne⟩, fun p a i hp => ?_, fun b m hm => ?_, ?_, fun q => ?_⟩
  · rw [hg.cell_far ⟨g, b, none⟩ hgw hgne]; exact (hV b hb6).1
  · refine (hV b hb6).2.kept hg ?_
    rcases hvo : (V b).ownBlock with _ | k
    · exact .inl rfl
    · right
      intro e
      cases e
      rcases (hV b hb6).2.2 with ⟨h', -⟩ | ⟨r, cap, cur', h', hr, hh, -⟩
      · rw [h'] at hvo; simp [Value.ownBlock] at hvo
      · rw [h'] at hvo; simp [Value.ownBlock] at hvo; subst hvo; rw [hh] at hL; simp at hL
  · rw [hg.cell_far ⟨g, _, none⟩ hgw hgne, hg.cell_far ⟨g, _, none⟩ hgw hgne]; exact h.locs p a i hp
  · rw [hg.cell_far ⟨g, _, none⟩ hgw hgne]; exact h.ers b m hm
  · rw [hg.cell_far ⟨g, _, none⟩ hgw hgne]; exact h.acts
  · rw [hg.frozen_far ⟨g, q, none⟩ hgw hgne]; exact h.free q

def seenOf (s : Fl) : List Int := (List.range 8).map fun p => if s.loc[p]? = some (-1, 0) then 0 else 1
def valsOf (s : Fl) : List Int := (List.range 8).map s.val

theorem map_set8 (f h : Nat → Int) {p : Nat} (hp : p < 8) (x : Int) (he : h p = x) (ho : ∀ q, q < 8 → q ≠ p → h q = f q) : ((List.range 8).map f).set p x = (List.range 8).map h := by
  apply List.ext_getElem?
  intro i
  by_cases hi : i < 8
  · by_cases hip : i = p
    · subst hip
      rw [List.getElem?_set_self (by simpa using hp), List.getElem?_map, List.getElem?_range hp]
      simp [he]
    · rw [List.getElem?_set_ne (by omega), List.getElem?_map, List.getElem?_map, List.getElem?_range hi]
      simp [ho i hi hip]
  · rw [List.getElem?_eq_none (by simp; omega), List.getElem?_eq_none (by simp; omega)]

theorem seen_step {s : Fl} (h : Ok s) {p : Page} (hp : p.1 < 8) : (seenOf s).set p.1 1 = seenOf (s.write p) := by
  refine map_set8 _ _ hp 1 ?_ fun q hq hne => ?_
  · rw [if_neg]
    intro e
    exact ((h.write_no hp p.1).1 e).1 rfl
  · by_cases hn : s.loc[q]? = some (-1, 0)
    · rw [if_pos hn, if_pos ((h.write_no hp q).2 ⟨hne, hn⟩)]
    · rw [if_neg hn, if_neg (fun e => hn ((h.write_no hp q).1 e).2)]
theorem vals_step {s : Fl} (h : Ok s) {p : Page} (hp : p.1 < 8) : (valsOf s).set p.1 p.2 = valsOf (s.write p) :=
  map_set8 _ _ hp p.2 (h.write hp).2.1 fun q hq hne => (h.write hp).2.2 q hq hne

theorem seen_new : seenOf Fl.new = [0, 0, 0, 0, 0, 0, 0, 0] := by decide
theorem vals_new : valsOf Fl.new = [0, 0, 0, 0, 0, 0, 0, 0] := by decide
theorem seen_length (s : Fl) : (seenOf s).length = 8 := by simp [seenOf]
theorem vals_length (s : Fl) : (valsOf s).length = 8 := by simp [valsOf]

theorem seen_sum (s : Fl) : (seenOf s).sum = (s.all : Nat) := by
  unfold seenOf Fl.all
  have key : ∀ l : List Nat, (l.map fun p => if s.loc[p]? = some (-1, 0) then (0 : Int) else 1).sum = ((l.filter fun p => decide (s.loc[p]? ≠ some (-1, 0))).length : Nat) := by
    intro l
    induction l with
    | nil => rfl
    | cons x l ih =>
      rw [List.map_cons, List.sum_cons, ih, List.filter_cons]
      by_cases h : s.loc[x]? = some (-1, 0)
      · rw [if_pos h, if_neg (by simp [h])]
        simp
      · rw [if_neg h, if_pos (by simp [h])]
        simp
        omega
  exact key _

structure RowRel (F : Fl → List Int) (W wr : World) (g L : Nat) (s : Fl) (asked : Nat) : Prop where
  is : FlashIs wr g (g + 1) g s
  ok : Ok s
  hi : s.tot + 3 * s.er.sum ≤ asked
  row : wr.ownsRow (g + 1) 3 1 (.slice (some ⟨L, 0, none⟩) 8 8) 8 (ints (F s))
  below : Below W.heap.size W wr

theorem RowRel.times {F : Fl → List Int} {W wr : World} {g L : Nat} {s : Fl} {asked : Nat} (h : RowRel F W wr g L s asked) (ha : asked ≤ 100000) (b : Nat) : s.times b ≤ 999999 := by
  have h1 := times_le s b
  have h2 := h.hi
  omega
theorem RowRel.later {F : Fl → List Int} {W wr wr' : World} {g L : Nat} {s : Fl} {asked : Nat} (h : RowRel F W wr g L s asked) (hb : Below wr.heap.size wr wr') : RowRel F W wr' g L s asked :=
  ⟨h.is.below hb, h.ok, h.hi, ownsRow_later h.row hb, h.below.trans (hb.mono h.below.size)⟩
theorem RowRel.block {F : Fl → List Int} {W wr : World} {g L : Nat} {s : Fl} {asked : Nat} (h : RowRel F W wr g L s asked) : g < L ∧ ∃ cur, wr.heap[L]? = some (.cells cur 3 (0, 0)) := by
  rcases h.row.2 with ⟨h1, -⟩ | ⟨r, cap, cur, h1, hr, hh, -⟩
  · simp at h1
  · simp at h1
    obtain ⟨rfl, -⟩ := h1
    exact ⟨by omega, cur, hh⟩

/-- behind a write, the row yet to be written -/
structure RowMid (F : Fl → List Int) (W wr : World) (g L : Nat) (s : Fl) (p : Page) (asked : Nat) : Prop where
  is : FlashIs wr g (g + 1) g (s.write p)
  ok : Ok s
  hi : (s.write p).tot + 3 * (s.write p).er.sum ≤ asked
  row : wr.ownsRow (g + 1) 3 1 (.slice (some ⟨L, 0, none⟩) 8 8) 8 (ints (F s))
  below : Below W.heap.size W wr
theorem RowRel.mid {F : Fl → List Int} {W wr wr' : World} {g L : Nat} {s : Fl} {asked : Nat} (h : RowRel F W wr g L s asked) (hg : W.heap.size ≤ g) {p : Page} (hs : FlashIs wr' g (g + 1) g (s.write p)) (hb : Below g wr wr') (hk : KeptF wr wr' g) : RowMid F W wr' g L s p (asked + 1) := by
  obtain ⟨h1, h2, h3⟩ := h.ok.write_tot p
  have hbl := h.block.1
  exact ⟨hs, h.ok, by have := h.hi; omega, hk.own h.row (by simp [Value.ownBlock]; omega) (by decide), h.below.trans (hb.mono hg)⟩
theorem RowMid.drew {F : Fl → List Int} {W wr : World} {g L : Nat} {s : Fl} {p : Page} {asked : Nat} (h : RowMid F W wr g L s p asked) : RowMid F W wr.drew g L s p asked :=
  ⟨h.is.drew, h.ok, h.hi, h.row, h.below.drew⟩
theorem RowMid.stored {F : Fl → List Int} {W wr : World} {g L : Nat} {s : Fl} {p : Page} {asked : Nat} (h : RowMid F W wr g L s p asked) (hg : W.heap.size ≤ g) (hp : p.1 < 8) {x : Int} (hx : (F s).set p.1 x = F (s.write p)) :
    RowRel F W (wr.setCell ⟨L, p.1, none⟩ (.int .i64 x)) g L (s.write p) asked := by
  have hst := h.row.stored p.1 (.int .i64 x)
  have hbl : g < L ∧ ∃ cur, wr.heap[L]? = some (.cells cur 3 (0, 0)) := by
    rcases h.row.2 with ⟨h1, -⟩ | ⟨r, cap, cur, h1, hr, hh, -⟩
    · simp at h1
    · simp at h1
      obtain ⟨rfl, -⟩ := h1
      exact ⟨by omega, cur, hh⟩
  obtain ⟨hgl, cur, hh⟩ := hbl
  refine ⟨h.is.beside hh (by omega) hst.2, (h.ok.write hp).1, h.hi, ?_, h.below.grown hst.2 h.below.size (fun k hk => by cases hk; omega)⟩
  have h1 := hst.1
  rw [show (ints (F s)).set p.1 (.int .i64 x) = ints (F (s.write p)) by rw [← hx]; simp [ints, List.map_set]] at h1
  exact h1
theorem RowMid.cells {F : Fl → List Int} {W wr : World} {g L : Nat} {s : Fl} {p : Page} {asked : Nat} (h : RowMid F W wr g L s p asked) (hF : ∀ s, (F s).length = 8) {q : Nat} (hq : q < 8) : (∃ v, wr.cell? ⟨L, q, none⟩ = some v) ∧ wr.frozen? ⟨L, q, none⟩ = false := by
  refine ⟨?_, h.row.frozenAt q⟩
  have := h.row.cellAt q (by omega)
  rw [List.getElem?_eq_getElem (by simp [ints, hF]; exact hq)] at this
  exact ⟨_, this⟩

theorem mk8 : ∀ w : World, (Instr.makeSlice 30 (.int .i64 8) (.int .i64 8)).run Try.prog w = .ok (.slice (some ⟨w.heap.size, 0, none⟩) 8 8) (w.alloc (.cells #[.int .i64 0, .int .i64 0, .int .i64 0, .int .i64 0, .int .i64 0, .int .i64 0, .int .i64 0, .int .i64 0] 3)) := fun _ => by kernel_rfl

theorem own8 (w : World) (base : Nat) (h : base ≤ w.heap.size) : (w.alloc (.cells #[.int .i64 0, .int .i64 0, .int .i64 0, .int .i64 0, .int .i64 0, .int .i64 0, .int .i64 0, .int .i64 0] 3)).ownsRow base 3 1 (.slice (some ⟨w.heap.size, 0, none⟩) 8 8) 8 (ints [0, 0, 0, 0, 0, 0, 0, 0]) :=
  ⟨rfl, .inr ⟨w.heap.size, 8, _, rfl, h, heap_alloc_new _ _, Nat.le_refl _, by unfold maxLen; omega, rfl, rfl⟩⟩

theorem RowRel.first {F : Fl → List Int} {W w2 : World} {g : Nat} (hn : F Fl.new = [0, 0, 0, 0, 0, 0, 0, 0]) (hs : FlashIs w2 g (g + 1) g Fl.new) (hb : Below W.heap.size W w2) :
    RowRel F W (w2.alloc (.cells #[.int .i64 0, .int .i64 0, .int .i64 0, .int .i64 0, .int .i64 0, .int .i64 0, .int .i64 0, .int .i64 0] 3)) g w2.heap.size Fl.new 0 :=
  ⟨hs.below ((Below.refl _ _).alloc (Nat.le_refl _) _), Fl.new_ok, by decide, by rw [hn]; exact own8 w2 (g + 1) (by have := hs.lo; omega), hb.alloc hb.size _⟩

end Go.Proofs.Ytglcljeeigilnaa
