/- The references' rows of integers: where they lie, and that they stay. -/
import Derived.Test.YtegibgflhhdddaaDoorRefList
namespace Go.Proofs.YtegibgflhhdddaaDoor
open Go.RowKit

def natsI (l : List Nat) : List Int := l.map fun (n : Nat) => (n : Int)
theorem natsI_length (l : List Nat) : (natsI l).length = l.length := by simp [natsI]
theorem natsI_get {l : List Nat} {i x : Nat} (h : l[i]? = some x) : (natsI l)[i]? = some (x : Int) := by simp [natsI, h]
theorem natsI_set (l : List Nat) (i x : Nat) : natsI (l.set i x) = (natsI l).set i (x : Int) := by simp [natsI, List.map_set]

/-- a slice lies in a block of integers, or nowhere -/
def IntRow (w : World) (v : Value) : Prop := ∀ (a : Addr) (n c : Nat), v = .slice (some a) n c → ∃ cs fr, w.heap[a.block]? = some (.cells cs 3 fr)

/-- v reads as L, and lies in a block of integers, not below z -/
structure IV (z : Nat) (w : World) (v : Value) (L : List Int) : Prop where
  is : HasInts w v L
  row : IntRow w v
  lo : ∀ (a : Addr) (n c : Nat), v = .slice (some a) n c → z ≤ a.block
variable {z : Nat}

theorem lt_of_heap {w : World} {x : Nat} {o : Obj} (h : w.heap[x]? = some o) : x < w.heap.size := (Array.getElem?_eq_some_iff.1 h).1

theorem IV.nil (w : World) : IV z w (.slice none 0 0) [] := ⟨HasInts.nil w, (fun _ _ _ h => by cases h), (fun _ _ _ h => by cases h)⟩
theorem IV.below {w w' : World} {v : Value} {L : List Int} (h : IV z w v L) (hb : Below w.heap.size w w') : IV z w' v L := ⟨h.is.below hb, fun a n c e => by
  obtain ⟨cs, fr, hh⟩ := h.row a n c e
  exact ⟨cs, fr, by rw [hb.block _ (lt_of_heap hh)]; exact hh⟩, h.lo⟩
theorem IV.own {w : World} {base : Nat} {v : Value} {n : Nat} {L : List Int} (h : w.ownsRow base 3 1 v n (ints L)) (hz : z ≤ base) : IV z w v L := ⟨(HasInts.of_own h).2, fun a m c e => by
  rcases h.2 with ⟨rfl, -⟩ | ⟨g, cap, cur, rfl, -, hh, -⟩
  · cases e
  · cases e
    exact ⟨cur, _, hh⟩, fun a m c e => by
  rcases h.2 with ⟨rfl, -⟩ | ⟨g, cap, cur, rfl, hb, hh, -⟩
  · cases e
  · cases e
    exact Nat.le_trans hz hb⟩
theorem IV.sl {w : World} {v : Value} {L : List Int} (h : IV z w v L) : ∃ a n c, v = .slice a n c ∧ n = L.length := by
  obtain ⟨a, cap, h1, -⟩ := h.is
  exact ⟨a, _, cap, h1, rfl⟩
theorem IV.at {w : World} {a : Option Addr} {n cap : Nat} {L : List Int} (h : IV z w (.slice a n cap) L) {j : Nat} {x : Int} (hx : L[j]? = some x) :
    ∃ b off, a = some ⟨b, off, none⟩ ∧ w.cell? ⟨b, off + j, none⟩ = some (.int .i64 x) ∧ b < w.heap.size := by
  obtain ⟨a', cap', h1, -, -, h4⟩ := h.is
  cases h1
  obtain ⟨b, off, h5, h7, h6⟩ := h4 (Nat.lt_of_le_of_lt (Nat.zero_le _) (List.getElem?_eq_some_iff.1 hx).1)
  exact ⟨b, off, h5, h6 j x hx, h7⟩
theorem IV.set {w : World} {v : Value} {L : List Int} (h : IV z w v L) {g o : Nat} {u : Value} {cs : Array Value} {T : TypeId} {fr : Nat × Nat} (hg : w.heap[g]? = some (.cells cs T fr)) (hT : T ≠ 3) : IV z (w.setCell ⟨g, o, none⟩ u) v L := by
  have hne : ∀ a n c, v = .slice (some a) n c → a.block ≠ g := fun a n c e e' => by
    obtain ⟨cs', fr', hh⟩ := h.row a n c e
    rw [e', hg] at hh
    simp only [Option.some.injEq, Obj.cells.injEq] at hh
    exact hT hh.2.1
  refine ⟨?_, fun a n c e => ?_, h.lo⟩
  · obtain ⟨a, cap, rfl, h2, h3, h4⟩ := h.is
    refine ⟨a, cap, rfl, h2, h3, fun h0 => ?_⟩
    obtain ⟨b, off, rfl, h5, h6⟩ := h4 h0
    refine ⟨b, off, rfl, by simpa using h5, fun j x hj => ?_⟩
    have hb := hne _ _ _ rfl
    exact (World.cell?_setCell_other _ _ _ _ (fun e => by simp only [Addr.mk.injEq] at e; exact hb e.1.symm)).trans (h6 j x hj)
  · obtain ⟨cs', fr', hh⟩ := h.row a n c e
    exact ⟨cs', fr', (heap_setCell_other w ⟨g, o, none⟩ a.block u (hne a n c e)).trans hh⟩
theorem IV.small {w : World} {v : Value} {L : List Int} (h : IV z w v L) : L.length ≤ maxLen := by
  obtain ⟨a, cap, -, h2, h3, -⟩ := h.is
  omega

theorem results_row1 {fn : Func} {p : Tmp} {ty : TypeId} (h : fn.results = #[.cell p ty]) {tmps : Array Value} {w : World} {g : Nat} {x : Value} {P : Program}
    (hp : tmps.getD p undef = .pointer (some ⟨g, 0, none⟩)) (hl : (loadVar ty ⟨g, 0, none⟩).run P w = .ok x w) : (results fn tmps).run P w = .ok x w := by
  have hp' : tmps[p]?.getD undef = .pointer (some ⟨g, 0, none⟩) := by simpa using hp
  simp [results, h, hp', asAddr, hl]

theorem set_iv (va : Value) (xs : List Int) (i : Nat) (x : Int) (w : World) (ha : IV z w va xs) (hi : i < xs.length) (hlen : xs.length ≤ 1000000) (hz : z ≤ w.heap.size) :
    Calls Tryd.prog 20 #[va, .int .i64 (i : Nat), .int .i64 x] w fun e w' => (∃ b c, e = .returned (.slice (some ⟨b, 0, none⟩) xs.length c) ∧ IV z w' (.slice (some ⟨b, 0, none⟩) xs.length c) (xs.set i x)) ∧ Below w.heap.size w w' := by
  refine (set_anyD va xs i x w ha.is hi hlen).mono ?_
  rintro e w' ⟨⟨v, rfl, ho⟩, hb⟩
  obtain ⟨b, c, rfl, ho'⟩ := own_some ho (by omega)
  exact ⟨⟨b, c, rfl, IV.own ho' hz⟩, hb⟩
theorem behind_iv (va : Value) (xs : List Int) (x : Int) (w : World) (ha : IV z w va xs) (h0 : xs = [] → va = .slice none 0 0) (hlen : xs.length ≤ 1000000) (hz : z ≤ w.heap.size) :
    Calls Tryd.prog 51 #[va, .int .i64 x] w fun e w' => (∃ b c, e = .returned (.slice (some ⟨b, 0, none⟩) (xs.length + 1) c) ∧ IV z w' (.slice (some ⟨b, 0, none⟩) (xs.length + 1) c) (xs ++ [x])) ∧ Below w.heap.size w w' := by
  refine (behind_any va xs x w ha.is h0 hlen).mono ?_
  rintro e w' ⟨⟨v, rfl, ho⟩, hb⟩
  obtain ⟨b, c, rfl, ho'⟩ := own_some ho (by omega)
  exact ⟨⟨b, c, rfl, IV.own ho' hz⟩, hb⟩

theorem cells6 {w : World} {g : Nat} {T : TypeId} {a0 a1 a2 a3 a4 a5 : Value} (h : w.heap[g]? = some (.cells #[a0, a1, a2, a3, a4, a5] T (0, 0))) : (w.cell? ⟨g, 0, none⟩ = some a0 ∧ w.cell? ⟨g, 1, none⟩ = some a1 ∧ w.cell? ⟨g, 2, none⟩ = some a2 ∧ w.cell? ⟨g, 3, none⟩ = some a3 ∧ w.cell? ⟨g, 4, none⟩ = some a4 ∧ w.cell? ⟨g, 5, none⟩ = some a5) ∧
    (w.frozen? ⟨g, 0, none⟩ = false ∧ w.frozen? ⟨g, 1, none⟩ = false ∧ w.frozen? ⟨g, 2, none⟩ = false ∧ w.frozen? ⟨g, 3, none⟩ = false ∧ w.frozen? ⟨g, 4, none⟩ = false ∧ w.frozen? ⟨g, 5, none⟩ = false) := by
  refine ⟨⟨?_, ?_, ?_, ?_, ?_, ?_⟩, ⟨?_, ?_, ?_, ?_, ?_, ?_⟩⟩ <;> first | (unfold World.cell?; simp only; rw [h]; rfl) | (unfold World.frozen?; simp only; rw [h]; rfl)
theorem fill6 {w : World} {g : Nat} {T : TypeId} {a0 a1 a2 a3 a4 a5 : Value} (h : w.heap[g]? = some (.cells #[a0, a1, a2, a3, a4, a5] T (0, 0))) (x0 x1 x2 x3 x4 x5 : Value) :
    ((((((w.setCell ⟨g, 0, none⟩ x0).setCell ⟨g, 1, none⟩ x1).setCell ⟨g, 2, none⟩ x2).setCell ⟨g, 3, none⟩ x3).setCell ⟨g, 4, none⟩ x4).setCell ⟨g, 5, none⟩ x5).heap[g]? = some (.cells #[x0, x1, x2, x3, x4, x5] T (0, 0)) := by
  have h0 := heap_setCell_same w g 0 _ T x0 h
  have h1 := heap_setCell_same _ g 1 _ T x1 h0
  have h2 := heap_setCell_same _ g 2 _ T x2 h1
  have h3 := heap_setCell_same _ g 3 _ T x3 h2
  have h4 := heap_setCell_same _ g 4 _ T x4 h3
  have h5 := heap_setCell_same _ g 5 _ T x5 h4
  rw [h5]
  rfl

end Go.Proofs.YtegibgflhhdddaaDoor
