/- The book in memory: what it is, what leaves it alone. -/
import Derived.Test.YtegibgflhhdddaaGreatDoorBookMath
import Derived.Test.YtegibgflhhdddaaGreatDoorBldStr
import Derived.Test.YtegibgflhhdddaaGreatDoorTold
namespace Go.Proofs.YtegibgflhhdddaaGreatDoor
open Go.RowKit
open Go.Lib (byteCells strCells strCells_length byteCells_length byteCells_append)

def putsV (G : List (Nat × Nat)) : List Value := (G.map fun q => [Value.int .i64 0, .int .i64 (q.1 : Nat), .int .i64 (q.2 : Nat)]).flatten

theorem putsV_length (G : List (Nat × Nat)) : (putsV G).length = G.length * 3 := by
  unfold putsV
  induction G with
  | nil => rfl
  | cons q G ih => simp only [List.map_cons, List.flatten_cons, List.length_append, List.length_cons, List.length_nil, ih]; omega
theorem putsV_snoc (G : List (Nat × Nat)) (p v : Nat) : putsV (G ++ [(p, v)]) = putsV G ++ [.int .i64 0, .int .i64 (p : Nat), .int .i64 (v : Nat)] := by
  simp [putsV]
theorem putsV_at : ∀ (G : List (Nat × Nat)) (i : Nat) (q : Nat × Nat), G[i]? = some q → (putsV G)[i * 3 + 1]? = some (.int .i64 (q.1 : Nat)) ∧ (putsV G)[i * 3 + 2]? = some (.int .i64 (q.2 : Nat)) ∧ (putsV G)[i * 3]? = some (.int .i64 0)
  | [], i, q, h => by simp at h
  | a :: G, 0, q, h => by
    simp at h
    subst h
    simp [putsV]
  | a :: G, i + 1, q, h => by
    simp at h
    have ih := putsV_at G i q h
    have e : ∀ j, (putsV (a :: G))[j + 3]? = (putsV G)[j]? := fun j => by simp [putsV]
    rw [show (i + 1) * 3 + 1 = (i * 3 + 1) + 3 by omega, show (i + 1) * 3 + 2 = (i * 3 + 2) + 3 by omega, show (i + 1) * 3 = i * 3 + 3 by omega, e, e, e]
    exact ih

/-- where the group lies -/
def grpRow (w : World) (g : Nat) : Option Nat := match w.cell? ⟨g, 8, none⟩ with
  | some v => v.ownBlock
  | none => none

structure BookAt (w : World) (g : Nat) (B : List Nat) (G : List (Nat × Nat)) (txt : List UInt8) (m : Nat) : Prop where
  len : B.length = 8
  cells : ∀ (i n : Nat), B[i]? = some n → w.cell? ⟨g, i, none⟩ = some (.int .i64 (n : Nat))
  grp : ∃ v, w.cell? ⟨g, 8, none⟩ = some v ∧ w.ownsRow (g + 1) 94 3 v G.length (putsV G)
  bld : Bld w 51 12 (g + 1) g 9 txt
  many : w.cell? ⟨g, 11, none⟩ = some (.int .i64 (m : Nat))

abbrev BookIs (w : World) (g : Nat) (b : Bk) : Prop := BookAt w g b.B b.G b.text b.T.length

/-- the blocks that a book has -/
def BkOwn (w : World) (g x : Nat) : Prop := x = g ∨ grpRow w g = some x ∨ bldRow w g 9 = some x

structure BkFrame (w w' : World) (g : Nat) : Prop where
  size : w.heap.size ≤ w'.heap.size
  below : ∀ B, B ≤ g → Below B w w'
  blocks : ∀ x, x < w.heap.size → ¬ BkOwn w g x → w'.heap[x]? = w.heap[x]?
  own : ∀ x, BkOwn w' g x → BkOwn w g x ∨ w.heap.size ≤ x

theorem BkFrame.refl (w : World) (g : Nat) : BkFrame w w g := ⟨Nat.le_refl _, fun _ _ => Below.refl _ _, fun _ _ _ => rfl, fun _ h => .inl h⟩
theorem BkFrame.trans {w1 w2 w3 : World} {g : Nat} (h : BkFrame w1 w2 g) (k : BkFrame w2 w3 g) : BkFrame w1 w3 g := by
  refine ⟨Nat.le_trans h.size k.size, fun B hB => (h.below B hB).trans (k.below B hB), fun x hx ho => ?_, fun x hx => ?_⟩
  · rw [k.blocks x (Nat.lt_of_lt_of_le hx h.size) (fun e => ?_), h.blocks x hx ho]
    rcases h.own x e with e | e
    · exact ho e
    · omega
  · rcases k.own x hx with e | e
    · exact h.own x e
    · exact .inr (Nat.le_trans h.size e)

theorem ownsRow_block {w w' : World} {base : Nat} {e : TypeId} {size : Nat} {v : Value} {n : Nat} {xs : List Value} (h : w.ownsRow base e size v n xs) (hb : ∀ k, v.ownBlock = some k → w'.heap[k]? = w.heap[k]?) : w'.ownsRow base e size v n xs := by
  refine ⟨h.1, ?_⟩
  rcases h.2 with h2 | ⟨g, cap, cur, rfl, h3, h4, h5⟩
  · exact .inl h2
  · exact .inr ⟨g, cap, cur, rfl, h3, by rw [hb g rfl]; exact h4, h5⟩
theorem ownsRowF_block {w w' : World} {base : Nat} {e : TypeId} {size : Nat} {v : Value} {n : Nat} {xs : List Value} (h : w.ownsRowF base e size v n xs) (hb : ∀ k, v.ownBlock = some k → w'.heap[k]? = w.heap[k]?) : w'.ownsRowF base e size v n xs := by
  refine ⟨h.1, ?_⟩
  rcases h.2 with h2 | ⟨g, cap, cur, fz, rfl, h3, h4, h5⟩
  · exact .inl h2
  · exact .inr ⟨g, cap, cur, fz, rfl, h3, by rw [hb g rfl]; exact h4, h5⟩

theorem shape_of_block {w w' : World} {b : Nat} (h : w'.heap[b]? = w.heap[b]?) : w'.shape? b = w.shape? b := by simp [World.shape?, h]

theorem Bld.block {w w' : World} {T cells base b off : Nat} {l : List UInt8} (h : Bld w T cells base b off l) (hz : w.heap.size ≤ w'.heap.size) (hb : w'.heap[b]? = w.heap[b]?) (hr : ∀ k, bldRow w b off = some k → w'.heap[k]? = w.heap[k]?) :
    Bld w' T cells base b off l ∧ bldRow w' b off = bldRow w b off := by
  have hc : ∀ o, w'.cell? ⟨b, o, none⟩ = w.cell? ⟨b, o, none⟩ := fun o => World.cell?_of_block hb
  obtain ⟨v, h1, h2⟩ := h.row
  have h3 := (h.addr_block h1).2.2
  refine ⟨⟨⟨h.lo.1, Nat.le_trans h.lo.2 hz⟩, by rw [hc]; exact h.addr, ⟨v, by rw [hc]; exact h1, ownsRowF_block h2 (fun k hk => hr k (by rw [h3]; exact hk))⟩, fun o => ?_, by rw [shape_of_block hb]; exact h.shape, h.lies, h.room⟩, ?_⟩
  · rw [World.frozen?_of_block (w := w) (w' := w') (a := ⟨b, o, none⟩) hb]; exact h.free o
  · unfold bldRow; rw [hc]

theorem BookAt.lt {w : World} {g : Nat} {B : List Nat} {G : List (Nat × Nat)} {txt : List UInt8} {m : Nat} (h : BookAt w g B G txt m) : g < w.heap.size := by have := h.bld.lo; omega
theorem BookAt.free {w : World} {g : Nat} {B : List Nat} {G : List (Nat × Nat)} {txt : List UInt8} {m : Nat} (h : BookAt w g B G txt m) (o : Nat) : w.frozen? ⟨g, o, none⟩ = false := h.bld.free o

/-- what leaves its blocks alone leaves the book alone -/
theorem BookAt.keep {w w' : World} {g : Nat} {B : List Nat} {G : List (Nat × Nat)} {txt : List UInt8} {m : Nat} (h : BookAt w g B G txt m) (hz : w.heap.size ≤ w'.heap.size) (hk : ∀ x, BkOwn w g x → w'.heap[x]? = w.heap[x]?) :
    BookAt w' g B G txt m ∧ ∀ x, BkOwn w' g x ↔ BkOwn w g x := by
  have hg := hk g (.inl rfl)
  have hc : ∀ o, w'.cell? ⟨g, o, none⟩ = w.cell? ⟨g, o, none⟩ := fun o => World.cell?_of_block hg
  obtain ⟨v, h1, h2⟩ := h.grp
  have hrow : grpRow w g = v.ownBlock := by simp [grpRow, h1]
  obtain ⟨k1, k2⟩ := h.bld.block hz hg (fun k hk' => hk k (.inr (.inr hk')))
  refine ⟨⟨h.len, fun i n hi => by rw [hc]; exact h.cells i n hi, ⟨v, by rw [hc]; exact h1, ownsRow_block h2 (fun k hk' => hk k (.inr (.inl (by rw [hrow]; exact hk'))))⟩, k1, by rw [hc]; exact h.many⟩, fun x => ?_⟩
  unfold BkOwn
  rw [k2]
  have : grpRow w' g = grpRow w g := by unfold grpRow; rw [hc]
  rw [this]

theorem BookAt.own_lt {w : World} {g : Nat} {B : List Nat} {G : List (Nat × Nat)} {txt : List UInt8} {m : Nat} (h : BookAt w g B G txt m) {x : Nat} (hx : BkOwn w g x) : g ≤ x ∧ x < w.heap.size := by
  have hl := h.lt
  rcases hx with rfl | hx | hx
  · exact ⟨Nat.le_refl _, hl⟩
  · obtain ⟨v, h1, h2⟩ := h.grp
    have := h2.lt x (by simpa [grpRow, h1] using hx)
    omega
  · obtain ⟨v, h1, h2⟩ := h.bld.row
    have := (h.bld.addr_block h1).2
    have := this.1 x (by rw [← this.2]; exact hx)
    omega

/-- new blocks leave it alone -/
theorem BookAt.below {w w' : World} {g : Nat} {B : List Nat} {G : List (Nat × Nat)} {txt : List UInt8} {m : Nat} (h : BookAt w g B G txt m) (hb : Below w.heap.size w w') : BookAt w' g B G txt m ∧ ∀ x, BkOwn w' g x ↔ BkOwn w g x :=
  h.keep hb.size (fun x hx => hb.block x (h.own_lt hx).2)
theorem BookAt.later {w w' : World} {g : Nat} {B : List Nat} {G : List (Nat × Nat)} {txt : List UInt8} {m : Nat} (h : BookAt w g B G txt m) (hb : Below w.heap.size w w') : BookAt w' g B G txt m := (h.below hb).1
theorem BookAt.frame {w w' : World} {g : Nat} {B : List Nat} {G : List (Nat × Nat)} {txt : List UInt8} {m : Nat} (h : BookAt w g B G txt m) (hb : Below w.heap.size w w') : BkFrame w w' g :=
  ⟨hb.size, fun B hB => hb.mono (by have := h.lt; omega), fun x hx _ => hb.block x hx, fun x hx => .inl (((h.below hb).2 x).1 hx)⟩
/-- so does work on another book -/
theorem BookAt.other {w w' : World} {g g' : Nat} {B : List Nat} {G : List (Nat × Nat)} {txt : List UInt8} {m : Nat} (h : BookAt w g B G txt m) (hf : BkFrame w w' g') (hd : ∀ x, BkOwn w g x → ¬ BkOwn w g' x) : BookAt w' g B G txt m ∧ (∀ x, BkOwn w' g x → ¬ BkOwn w' g' x) := by
  obtain ⟨h1, h2⟩ := h.keep hf.size (fun x hx => hf.blocks x (h.own_lt hx).2 (hd x hx))
  refine ⟨h1, fun x hx hx' => ?_⟩
  have hx0 := (h2 x).1 hx
  rcases hf.own x hx' with e | e
  · exact hd x hx0 e
  · have := (h.own_lt hx0).2; omega

theorem BookAt.rows {w : World} {g : Nat} {B : List Nat} {G : List (Nat × Nat)} {txt : List UInt8} {m : Nat} (h : BookAt w g B G txt m) {x : Nat} (h1 : grpRow w g = some x) : bldRow w g 9 ≠ some x := by
  intro h0
  obtain ⟨v, h1', h2⟩ := h.grp
  obtain ⟨u, h3, h4⟩ := h.bld.row
  have e1 : grpRow w g = v.ownBlock := by simp [grpRow, h1']
  have e2 := (h.bld.addr_block h3).2.2
  rw [e1] at h1
  rw [e2] at h0
  rcases h2.2 with ⟨rfl, -⟩ | ⟨y, cap, cur, rfl, -, hy, -⟩
  · cases h1
  · rcases h4.2 with ⟨rfl, -⟩ | ⟨z, cap', cur', fz, rfl, -, hz, -⟩
    · cases h0
    · simp only [Value.ownBlock, Option.some.injEq] at h1 h0
      rw [h1] at hy
      rw [h0, hy] at hz
      simp at hz

/-- work on the builder -/
theorem BookAt.built {w w' : World} {g : Nat} {B : List Nat} {G : List (Nat × Nat)} {txt txt' : List UInt8} {m : Nat} (h : BookAt w g B G txt m) (hf : BldFrame w w' (g + 1) g 9) (hb : Bld w' 51 12 (g + 1) g 9 txt') : BookAt w' g B G txt' m ∧ BkFrame w w' g := by
  obtain ⟨v, h1, h2⟩ := h.grp
  have e1 : grpRow w g = v.ownBlock := by simp [grpRow, h1]
  have hc8 : w'.cell? ⟨g, 8, none⟩ = w.cell? ⟨g, 8, none⟩ := hf.cells 8 (by decide) (by decide)
  have hg' : grpRow w' g = grpRow w g := by unfold grpRow; rw [hc8]
  refine ⟨⟨h.len, fun i n hi => ?_, ⟨v, hc8.trans h1, ?_⟩, hb, ?_⟩, hf.size, fun B hB => hf.below B hB (by omega), fun x hx ho => ?_, fun x hx => ?_⟩
  · have : i < B.length := (List.getElem?_eq_some_iff.1 hi).1
    have := h.len
    rw [hf.cells i (by omega) (by omega)]
    exact h.cells i n hi
  · refine ownsRow_block h2 (fun k hk => ?_)
    have hlt := h2.lt k hk
    exact hf.blocks k hlt.2 (by omega) (h.rows (e1.trans hk))
  · rw [hf.cells 11 (by decide) (by decide)]
    exact h.many
  · refine hf.blocks x hx (fun e => ho (.inl e)) (fun e => ho (.inr (.inr e)))
  · rcases hx with rfl | hx | hx
    · exact .inl (.inl rfl)
    · exact .inl (.inr (.inl (by rw [← hg']; exact hx)))
    · rcases hf.row with e | e
      · exact .inl (.inr (.inr (by rw [← e]; exact hx)))
      · exact .inr (e x hx)

theorem Bld.poke {w : World} {T cells base b off o : Nat} {l : List UInt8} (h : Bld w T cells base b off l) (ho : o ≠ off ∧ o ≠ off + 1) (u : Value) : Bld (w.setCell ⟨b, o, none⟩ u) T cells base b off l ∧ bldRow (w.setCell ⟨b, o, none⟩ u) b off = bldRow w b off := by
  have c0 : (w.setCell ⟨b, o, none⟩ u).cell? ⟨b, off, none⟩ = w.cell? ⟨b, off, none⟩ := World.cell?_setCell_other _ _ _ _ (by first | (simp; done) | (simp; omega))
  have c1 : (w.setCell ⟨b, o, none⟩ u).cell? ⟨b, off + 1, none⟩ = w.cell? ⟨b, off + 1, none⟩ := World.cell?_setCell_other _ _ _ _ (by first | (simp; done) | (simp; omega))
  obtain ⟨v, h1, h2⟩ := h.row
  have hl := (h.addr_block h1).2.1
  have lo := h.lo
  refine ⟨⟨⟨lo.1, by simpa using lo.2⟩, by rw [c0]; exact h.addr, ⟨v, by rw [c1]; exact h1, ownsRowF_block h2 (fun k hk => heap_setCell_other w ⟨b, o, none⟩ k u (by have := hl k hk; simp only; omega))⟩, fun q => by rw [World.frozen?_setCell]; exact h.free q, by rw [shape_setCell]; exact h.shape, h.lies, h.room⟩, ?_⟩
  unfold bldRow
  rw [c1]

/-- a cell of the book's own block is written: not the builder's -/
theorem BookAt.poked {w : World} {g o : Nat} {B : List Nat} {G : List (Nat × Nat)} {txt : List UInt8} {m : Nat} (h : BookAt w g B G txt m) (ho : o ≠ 9 ∧ o ≠ 10) (u : Value) (hu : o = 8 → u.ownBlock = none) : BkFrame w (w.setCell ⟨g, o, none⟩ u) g := by
  have hl := h.lt
  obtain ⟨b1, b2⟩ := h.bld.poke (o := o) ho u
  refine ⟨by simp, fun B hB => (Below.refl _ _).setCell hB u, fun x hx hox => heap_setCell_other w ⟨g, o, none⟩ x u (fun e => hox (.inl e)), fun x hx => .inl ?_⟩
  rcases hx with rfl | hx | hx
  · exact .inl rfl
  · refine .inr (.inl ?_)
    by_cases h8 : o = 8
    · subst h8
      obtain ⟨v, h1, h2⟩ := h.grp
      have e : (w.setCell ⟨g, 8, none⟩ u).cell? ⟨g, 8, none⟩ = some u := World.cell?_setCell_same _ _ _ h1
      unfold grpRow at hx
      rw [e] at hx
      simp only at hx
      rw [hu rfl] at hx
      cases hx
    · have e : (w.setCell ⟨g, o, none⟩ u).cell? ⟨g, 8, none⟩ = w.cell? ⟨g, 8, none⟩ := World.cell?_setCell_other _ _ _ _ (by first | (simp; done) | (simp; omega))
      unfold grpRow at hx ⊢
      rw [e] at hx
      exact hx
  · exact .inr (.inr (by rw [← b2]; exact hx))

theorem BookAt.grp_poke {w : World} {g o : Nat} {B : List Nat} {G : List (Nat × Nat)} {txt : List UInt8} {m : Nat} (h : BookAt w g B G txt m) (ho : o ≠ 8) (u : Value) : ∃ v, (w.setCell ⟨g, o, none⟩ u).cell? ⟨g, 8, none⟩ = some v ∧ (w.setCell ⟨g, o, none⟩ u).ownsRow (g + 1) 94 3 v G.length (putsV G) := by
  obtain ⟨v, h1, h2⟩ := h.grp
  refine ⟨v, (World.cell?_setCell_other _ _ _ _ (by first | (simp; done) | (simp; omega))).trans h1, ownsRow_block h2 (fun k hk => heap_setCell_other w ⟨g, o, none⟩ k u (by have := h2.lt k hk; simp only; omega))⟩

/-- the count of lines is written -/
theorem BookAt.counted {w : World} {g : Nat} {B : List Nat} {G : List (Nat × Nat)} {txt : List UInt8} {m : Nat} (h : BookAt w g B G txt m) (m' : Nat) : BookAt (w.setCell ⟨g, 11, none⟩ (.int .i64 (m' : Nat))) g B G txt m' ∧ BkFrame w (w.setCell ⟨g, 11, none⟩ (.int .i64 (m' : Nat))) g := by
  refine ⟨⟨h.len, fun i n hi => ?_, h.grp_poke (by decide) _, (h.bld.poke ⟨by decide, by decide⟩ _).1, World.cell?_setCell_same _ _ _ h.many⟩, h.poked ⟨by decide, by decide⟩ _ (fun e => by cases e)⟩
  have : i < B.length := (List.getElem?_eq_some_iff.1 hi).1
  have := h.len
  exact (World.cell?_setCell_other _ _ _ _ (by first | (simp; done) | (simp; omega))).trans (h.cells i n hi)

/-- a block's value is written -/
theorem BookAt.valued {w : World} {g i : Nat} {B : List Nat} {G : List (Nat × Nat)} {txt : List UInt8} {m : Nat} (h : BookAt w g B G txt m) (hi : i < 8) (x : Nat) : BookAt (w.setCell ⟨g, i, none⟩ (.int .i64 (x : Nat))) g (B.set i x) G txt m ∧ BkFrame w (w.setCell ⟨g, i, none⟩ (.int .i64 (x : Nat))) g := by
  have hlen := h.len
  obtain ⟨n0, hn0⟩ : ∃ n0, B[i]? = some n0 := ⟨_, List.getElem?_eq_getElem (by omega)⟩
  refine ⟨⟨by simpa using h.len, fun j n hj => ?_, h.grp_poke (by omega) _, (h.bld.poke ⟨by omega, by omega⟩ _).1, (World.cell?_setCell_other _ _ _ _ (by first | (simp; done) | (simp; omega))).trans h.many⟩, h.poked ⟨by omega, by omega⟩ _ (fun e => by omega)⟩
  by_cases hij : i = j
  · subst hij
    rw [List.getElem?_set_self (by omega)] at hj
    cases hj
    exact World.cell?_setCell_same _ _ _ (h.cells i n0 hn0)
  · rw [List.getElem?_set_ne hij] at hj
    exact (World.cell?_setCell_other _ _ _ _ (by first | (simp; done) | (simp; omega))).trans (h.cells j n hj)

/-- the group is cleared -/
theorem BookAt.cleared {w : World} {g : Nat} {B : List Nat} {G : List (Nat × Nat)} {txt : List UInt8} {m : Nat} (h : BookAt w g B G txt m) : BookAt (w.setCell ⟨g, 8, none⟩ (.slice none 0 0)) g B [] txt m ∧ BkFrame w (w.setCell ⟨g, 8, none⟩ (.slice none 0 0)) g := by
  have hlen := h.len
  obtain ⟨v, h1, h2⟩ := h.grp
  refine ⟨⟨h.len, fun i n hi => ?_, ⟨_, World.cell?_setCell_same _ _ _ h1, World.ownsRow_nil ..⟩, (h.bld.poke ⟨by decide, by decide⟩ _).1, (World.cell?_setCell_other _ _ _ _ (by simp)).trans h.many⟩, h.poked ⟨by decide, by decide⟩ _ (fun _ => rfl)⟩
  have : i < B.length := (List.getElem?_eq_some_iff.1 hi).1
  exact (World.cell?_setCell_other _ _ _ _ (by first | (simp; done) | (simp; omega))).trans (h.cells i n hi)

/-- something is appended to the group -/
theorem BookAt.grouped {w w1 : World} {g : Nat} {B : List Nat} {G : List (Nat × Nat)} {txt : List UInt8} {m : Nat} {v v' : Value} (h : BookAt w g B G txt m) (hv : w.cell? ⟨g, 8, none⟩ = some v) (p x : Nat) (hg : w.grownBy w1 v.ownBlock)
    (h1 : w1.ownsRow (g + 1) 94 3 v' (G.length + 1) (putsV G ++ [.int .i64 0, .int .i64 (p : Nat), .int .i64 (x : Nat)])) (hr : v'.ownBlock = v.ownBlock ∨ ∀ k, v'.ownBlock = some k → w.heap.size ≤ k) :
    BookAt (w1.setCell ⟨g, 8, none⟩ v') g B (G ++ [(p, x)]) txt m ∧ BkFrame w (w1.setCell ⟨g, 8, none⟩ v') g := by
  have hlen := h.len
  have hl := h.lt
  obtain ⟨v0, h2, h3⟩ := h.grp
  rw [hv] at h2
  cases h2
  have hgne : some g ≠ v.ownBlock := fun e => by have := h3.lt g e.symm; omega
  have hgb : w1.heap[g]? = w.heap[g]? := hg.block g hl hgne
  have hc : ∀ o, w1.cell? ⟨g, o, none⟩ = w.cell? ⟨g, o, none⟩ := fun o => World.cell?_of_block hgb
  have e1 : grpRow w g = v.ownBlock := by simp [grpRow, hv]
  obtain ⟨b1, b2⟩ := h.bld.block hg.size hgb (fun k hk => by
    obtain ⟨u, h4, h5⟩ := h.bld.row
    have h6 := (h.bld.addr_block h4).2
    exact hg.block k (h6.1 k (by rw [← h6.2]; exact hk)).2 (fun e => h.rows (e1.trans e.symm) hk))
  obtain ⟨b3, b4⟩ := b1.poke (o := 8) ⟨by decide, by decide⟩ v'
  have hsame : (w1.setCell ⟨g, 8, none⟩ v').cell? ⟨g, 8, none⟩ = some v' := World.cell?_setCell_same _ _ _ ((hc 8).trans hv)
  refine ⟨⟨h.len, fun i n hi => ?_, ⟨v', hsame, ?_⟩, b3, ?_⟩, ⟨by simpa using hg.size, fun B hB => ?_, fun x hx ho => ?_, fun x hx => ?_⟩⟩
  · have : i < B.length := (List.getElem?_eq_some_iff.1 hi).1
    exact (World.cell?_setCell_other _ _ _ _ (by first | (simp; done) | (simp; omega))).trans ((hc i).trans (h.cells i n hi))
  · rw [List.length_append, putsV_snoc]
    refine ownsRow_block h1 (fun k hk => heap_setCell_other w1 ⟨g, 8, none⟩ k v' (by have := h1.lt k hk; simp only; omega))
  · exact (World.cell?_setCell_other _ _ _ _ (by simp)).trans ((hc 11).trans h.many)
  · exact ((Below.refl B w).grown hg (by omega) (fun k hk => by have := h3.lt k hk; omega)).setCell hB _
  · rw [heap_setCell_other w1 ⟨g, 8, none⟩ x v' (fun e => ho (.inl e))]
    exact hg.block x hx (fun e => ho (.inr (.inl (by rw [e1]; exact e.symm))))
  · rcases hx with rfl | hx | hx
    · exact .inl (.inl rfl)
    · unfold grpRow at hx
      rw [hsame] at hx
      simp only at hx
      rcases hr with e | e
      · exact .inl (.inr (.inl (by rw [e1, ← e]; exact hx)))
      · exact .inr (e x hx)
    · exact .inl (.inr (.inr (by rw [← b2, ← b4]; exact hx)))

end Go.Proofs.YtegibgflhhdddaaGreatDoor
