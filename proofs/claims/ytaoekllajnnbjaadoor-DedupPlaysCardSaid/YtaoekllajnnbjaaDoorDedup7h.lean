/- What the walks of the laws on the store lean on. -/
import Derived.Test.YtaoekllajnnbjaaDoorDedup6
import Derived.Test.YtaoekllajnnbjaaDoorReadStrs
import Derived.Test.YtaoekllajnnbjaaDoorTold
namespace Go.Proofs.YtaoekllajnnbjaaDoor
open Go.RowKit Go.MapKept

/-- no chunk that lives has the text -/
def St.no (s : St) (t : ByteArray) : Prop := ∀ (i k : Nat), s.C[i]? = some (t, k) → k = 0

theorem PutRel.keepNo {s s' : St} {t u : ByteArray} {n : Int} {fresh : Bool} {ev : Value} (h : PutRel s s' t n fresh ev) (hne : t ≠ u) (hn : s.no u) : s'.no u ∧ s'.C.length ≤ s.C.length + 1 ∧ s'.top ≤ s.top + 1 := by
  cases h with
  | long _ e => subst e; exact ⟨hn, by omega, by omega⟩
  | had i k _ _ hi e =>
    subst e
    refine ⟨fun j m hj => ?_, by simp, by simp⟩
    simp only at hj
    by_cases hij : i = j
    · subst hij
      rw [List.getElem?_set_self (List.getElem?_eq_some_iff.1 hi).1] at hj
      simp at hj
      exact absurd hj.1 hne
    · rw [List.getElem?_set_ne hij] at hj
      exact hn j m hj
  | full _ _ _ e => subst e; exact ⟨hn, by omega, by omega⟩
  | new _ _ _ e =>
    subst e
    refine ⟨fun j m hj => ?_, by simp, by simp⟩
    simp only at hj
    by_cases hjl : j < s.C.length
    · rw [List.getElem?_append_left hjl] at hj
      exact hn j m hj
    · rw [List.getElem?_append_right (by omega)] at hj
      have hj0 : j - s.C.length = 0 := by
        rcases Nat.eq_zero_or_pos (j - s.C.length) with h0 | h0
        · exact h0
        · rw [List.getElem?_eq_none (by simp; omega)] at hj
          cases hj
      rw [hj0] at hj
      simp at hj
      exact absurd hj.1 hne

theorem PutRel.fresh0 {s s' : St} {t : ByteArray} {n : Int} {fresh : Bool} {ev : Value} (h : PutRel s s' t n fresh ev) (hn : s.no t) (h64 : t.size ≤ 64) (hl : s.C.length < 40) :
    n = s.C.length ∧ fresh = true ∧ ev = .nilIface ∧ s'.C = s.C ++ [(t, 1)] ∧ s'.top = s.top + 1 := by
  cases h with
  | long h _ => omega
  | had i k _ hk hi e => have := hn i k hi; omega
  | full _ _ h _ => omega
  | new _ _ _ e => subst e; exact ⟨rfl, rfl, rfl, rfl, rfl⟩

theorem PutRel.again {s s' : St} {t : ByteArray} {n : Int} {fresh : Bool} {ev : Value} {i k : Nat} (h : PutRel s s' t n fresh ev) (hok : s.ok) (hi : s.C[i]? = some (t, k)) (hk : 0 < k) (h64 : t.size ≤ 64) :
    n = i ∧ fresh = false ∧ ev = .nilIface ∧ s'.C = s.C.set i (t, k + 1) ∧ s'.top = s.top + 1 := by
  cases h with
  | long h _ => omega
  | had j m _ hm hj e =>
    subst e
    obtain rfl := St.one hok hi hj hk hm
    rw [hi] at hj
    simp at hj
    subst hj
    exact ⟨rfl, rfl, rfl, rfl, rfl⟩
  | full _ h _ _ => have := h i k hi; omega
  | new _ h _ _ => have := h i k hi; omega

structure Drop1 (W wr : World) (base g : Nat) (u : ByteArray) (j : Nat) : Prop where
  store : ∃ s, StoreIs wr W.heap.size base g s ∧ s.C.length ≤ j ∧ s.top ≤ j ∧ s.no u
  below : Below W.heap.size W wr
structure Drop2 (W wr : World) (base g : Nat) (u : ByteArray) (id q : Nat) : Prop where
  store : ∃ s, StoreIs wr W.heap.size base g s ∧ s.C.length ≤ 31 ∧ s.top ≤ 30 + q ∧ ((q = 0 ∧ s.C.length ≤ 30 ∧ s.no u) ∨ (0 < q ∧ s.C[id]? = some (u, q)))
  below : Below W.heap.size W wr
structure Drop3 (W wr : World) (base g : Nat) (u : ByteArray) (id q m : Nat) : Prop where
  store : ∃ s, StoreIs wr W.heap.size base g s ∧ s.C.length ≤ 31 ∧ s.top ≤ 50 ∧ ((q < m ∧ s.C[id]? = some (u, m - q)) ∨ (q = m ∧ s.C[id]? = some (ByteArray.empty, 0) ∧ s.no u))
  below : Below W.heap.size W wr

theorem St.no_gone {s : St} (h : s.ok) {u : ByteArray} {i k : Nat} (hi : s.C[i]? = some (u, k)) (hk : 0 < k) (M : List Ent) : (St.mk (s.C.set i (ByteArray.empty, 0)) M s.c s.top).no u := by
  intro j m hj
  simp only at hj
  by_cases hij : i = j
  · subst hij
    rw [List.getElem?_set_self (List.getElem?_eq_some_iff.1 hi).1] at hj
    simp at hj
    omega
  · rw [List.getElem?_set_ne hij] at hj
    rcases Nat.eq_zero_or_pos m with h0 | h0
    · exact h0
    · exact absurd (St.one h hi hj hk h0) hij

theorem StoreIs.lowerD {w : World} {B B' base g : Nat} {s : St} (h : StoreIs w B base g s) (hB : B' ≤ B) : StoreIs w B' base g s := by
  obtain ⟨ok, lo, ⟨v, b, h1, h2, h3, h4, h5, h6, h7⟩, free⟩ := h
  exact ⟨ok, ⟨by omega, lo.2.1, lo.2.2⟩, ⟨v, b, by omega, h2, h3, h4, h5, h6, h7⟩, free⟩
theorem HasStrs.liesD {w : World} {a : Option Addr} {n cap : Nat} {L : List ByteArray} (h : HasStrs w (.slice a n cap) L) {j : Nat} {x : ByteArray} (hx : L[j]? = some x) :
    ∃ b off, a = some ⟨b, off, none⟩ ∧ w.cell? ⟨b, off + j, none⟩ = some (.string x) := by
  obtain ⟨a', cap', h1, -, -, h4⟩ := h
  cases h1
  obtain ⟨b, off, h5, -, h6⟩ := h4 (Nat.lt_of_le_of_lt (Nat.zero_le _) (List.getElem?_eq_some_iff.1 hx).1)
  exact ⟨b, off, h5, h6 j x hx⟩

end Go.Proofs.YtaoekllajnnbjaaDoor
