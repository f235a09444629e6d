/- What the laws on the store need of it: no law's own walk. -/
import Derived.Test.YtaoekllajnnbjaaDoorDedup3
namespace Go.Proofs.YtaoekllajnnbjaaDoor
open Go.RowKit Go.MapKept

/-- a text that lives has one number -/
theorem St.one {s : St} (h : s.ok) {t : ByteArray} {i j k m : Nat} (hi : s.C[i]? = some (t, k)) (hj : s.C[j]? = some (t, m)) (hk : 0 < k) (hm : 0 < m) : i = j := by
  obtain ⟨b, hb⟩ := h.live i t k hi hk
  obtain ⟨c, hc⟩ := h.live j t m hj hm
  have hp := h.apart
  by_cases e : i = j
  · exact e
  · exfalso
    have hne : ((t, i, b) : Ent) ≠ (t, j, c) := fun e' => e (by simp at e'; exact e'.1)
    rw [List.pairwise_iff_getElem] at hp
    obtain ⟨p, hp1, hp2⟩ := List.mem_iff_getElem.1 hb
    obtain ⟨q, hq1, hq2⟩ := List.mem_iff_getElem.1 hc
    rcases Nat.lt_trichotomy p q with h1 | h1 | h1
    · exact hp p q hp1 hq1 h1 (by rw [hp2, hq2])
    · subst h1
      exact hne (hp2.symm.trans hq2)
    · exact hp q p hq1 hp1 h1 (by rw [hp2, hq2])

theorem PutRel.went {s s' : St} {t : ByteArray} {n : Int} {fresh : Bool} {ev : Value} (h : PutRel s s' t n fresh ev) (hl : s.C.length < 40) :
    (ev = .iface 48 (.int .i64 4) ∧ 64 < t.size) ∨
    (ev = .nilIface ∧ t.size ≤ 64 ∧ s'.C.length ≤ s.C.length + 1 ∧ s'.top = s.top + 1 ∧ (∃ id k : Nat, n = id ∧ id < 40 ∧ 0 < k ∧ s'.C[id]? = some (t, k)) ∧
      ∀ (q k : Nat) (u : ByteArray), s.C[q]? = some (u, k) → 0 < k → ∃ k', 0 < k' ∧ s'.C[q]? = some (u, k')) := by
  cases h with
  | long h _ => exact .inl ⟨rfl, h⟩
  | had i k h1 hk hi e =>
    have hlt := (List.getElem?_eq_some_iff.1 hi).1
    subst e
    refine .inr ⟨rfl, h1, by simp, rfl, ⟨i, k + 1, rfl, by omega, by omega, by simp only; rw [List.getElem?_set_self hlt]⟩, fun q m u hq hm => ?_⟩
    by_cases e : i = q
    · subst e
      rw [hi] at hq
      simp at hq
      exact ⟨k + 1, by omega, by simp only; rw [List.getElem?_set_self hlt, hq.1]⟩
    · exact ⟨m, hm, by simp only; rw [List.getElem?_set_ne e]; exact hq⟩
  | full _ _ h _ => omega
  | new h1 _ _ e =>
    subst e
    refine .inr ⟨rfl, h1, by simp, rfl, ⟨s.C.length, 1, rfl, hl, by omega, by simp⟩, fun q m u hq hm => ⟨m, hm, ?_⟩⟩
    simp only
    rw [List.getElem?_append_left (List.getElem?_eq_some_iff.1 hq).1]
    exact hq

/-- an append to a row of another kind leaves the store -/
theorem StoreIs.pushed {w w' : World} {B base g : Nat} {s : St} {v : Value} {n : Nat} {xs : List Value} {o : Obj} {e : TypeId} {z : Nat} (hs : StoreIs w B base g s) (he : e ≠ 54) (hown : w.ownsRow base e z v n xs) (hg : (w.alloc o).grownBy w' v.ownBlock) :
    StoreIs w' B base g s := by
  have hs1 := hs.below ((Below.refl w.heap.size w).alloc (Nat.le_refl _) o)
  have hown1 := hown.alloc o
  have hv := hown.lt
  obtain ⟨ok, lo, ⟨vc, b, h1, h2, h3, h4, h5, h6, h7⟩, free⟩ := hs1
  have hg0 : g < (w.alloc o).heap.size := by omega
  have hgv : some g ≠ v.ownBlock := fun e => by have := hv g e.symm; omega
  have hbv : some b ≠ v.ownBlock := fun e => by have := hv b e.symm; omega
  refine ⟨ok, ⟨lo.1, lo.2.1, Nat.le_trans lo.2.2 hg.size⟩, ⟨vc, b, h1, h2, h3, by rw [hg.cell_far _ hg0 hgv]; exact h4, h5.kept hg ?_, by rw [hg.cell_far _ hg0 hgv]; exact h6, by rw [hg.block b (by omega) hbv]; exact h7⟩, fun o' => by rw [hg.frozen_far _ hg0 hgv]; exact free o'⟩
  rcases h5.2 with ⟨rfl, _⟩ | ⟨r, cap, cur, rfl, _, hr, _⟩
  · exact .inl rfl
  · right
    intro e'
    rcases hown1.2 with ⟨rfl, _⟩ | ⟨r', cap', cur', rfl, _, hr', _⟩
    · simp [Value.ownBlock] at e'
    · simp [Value.ownBlock] at e'
      subst e'
      rw [hr] at hr'
      cases hr'
      exact he rfl

end Go.Proofs.YtaoekllajnnbjaaDoor
