/- The reference's pieces are those of the program: plain lists. -/
import Derived.Test.YtnkihdkcmhbhkaaDoorPieceMath
import Derived.Test.YtnkihdkcmhbhkaaDoorChunkLoc
namespace Go.Proofs.YtnkihdkcmhbhkaaDoor.Chunk

/-- the reference's sum: of the last four bytes -/
def refSum (t : List UInt8) : Nat := sumB t (t.length - 4) t.length

def Inv2 (t : List UInt8) (f : Nat) (l : List Nat) (i : Nat) : Prop :=
  (∀ j, f ≤ j → j < i → cutAt t f j = false) ∧ ∀ k c, l[k]? = some c → cutAt t (lastOf l k) (c - 1) = true ∧ ∀ j, lastOf l k ≤ j → j + 1 < c → cutAt t (lastOf l k) j = false

theorem run_inv2 (t : List UInt8) (i : Nat) : Inv2 t (run t i).1 (run t i).2 i := by
  induction i with
  | zero => exact ⟨fun j _ h => by omega, by simp [run]⟩
  | succ i ih =>
    obtain ⟨h3, h4⟩ := ih
    obtain ⟨h1, h2, -, -⟩ := run_inv t i
    by_cases hc : cutAt t (run t i).1 i = true
    · rw [run_yes hc]
      refine ⟨fun j h h' => by simp only [] at h; omega, ?_⟩
      intro k c hk
      by_cases hl : k < (run t i).2.length
      · rw [lastOf_append _ _ _ (by omega)]
        rw [List.getElem?_append_left hl] at hk
        exact h4 k c hk
      · have hk' : k = (run t i).2.length := by
          rcases Nat.lt_or_ge k ((run t i).2.length + 1) with h | h
          · omega
          · rw [List.getElem?_eq_none (by simp; omega)] at hk; cases hk
        subst hk'
        rw [lastOf_append _ _ _ (Nat.le_refl _), ← h1]
        simp at hk
        subst hk
        exact ⟨hc, fun j hj hj' => h3 j hj (by omega)⟩
    · have hc' : cutAt t (run t i).1 i = false := by simpa using hc
      rw [run_no hc']
      refine ⟨fun j hj hj' => ?_, h4⟩
      by_cases e : j = i
      · subst e; exact hc'
      · exact h3 j hj (by omega)

theorem refSum_drop (t : List UInt8) (f n : Nat) (h : f + n ≤ t.length) : refSum ((t.drop f).take n) = sumB t (f + (n - 4)) (f + n) := by
  have hl : ((t.drop f).take n).length = n := by simp; omega
  unfold refSum
  rw [hl]
  have e : t = t.take f ++ t.drop f := (List.take_append_drop f t).symm
  have hf : (t.take f).length = f := by simp; omega
  conv => rhs; rw [e]
  have := sumB_shift (t.take f) (t.drop f) (n - 4) n
  rw [hf] at this
  rw [this]
  unfold sumB
  rw [List.take_take, Nat.min_self]

/-- ahead of a cut the reference goes on -/
theorem ref_go {t : List UInt8} {k c n : Nat} (h : (cuts t)[k]? = some c) (h1 : 1 ≤ n) (h2 : lastOf (cuts t) k + n < c) :
    lastOf (cuts t) k + n < t.length ∧ n < 16 ∧ (n < 2 ∨ refSum ((t.drop (lastOf (cuts t) k)).take n) % 8 ≠ 0) := by
  obtain ⟨a, b, c', d⟩ := cuts_inv h
  obtain ⟨-, g⟩ := run_inv2 t t.length
  have g := (g k c h).2 (lastOf (cuts t) k + n - 1) (by show lastOf (cuts t) k ≤ _; omega) (by omega)
  have g' : cutAt t (lastOf (cuts t) k) (lastOf (cuts t) k + n - 1) = false := g
  refine ⟨by omega, by omega, ?_⟩
  rw [refSum_drop t _ n (by omega)]
  unfold cutAt at g'
  rw [show lastOf (cuts t) k + n - 1 + 1 = lastOf (cuts t) k + n from by omega, show max (lastOf (cuts t) k) (lastOf (cuts t) k + n - 1 - 3) = lastOf (cuts t) k + (n - 4) from by omega] at g'
  simp at g'
  by_cases h5 : n < 2
  · exact .inl h5
  · right
    have := g'.2.2 (by omega)
    omega

/-- at a cut it stops -/
theorem ref_stop {t : List UInt8} {k c n : Nat} (h : (cuts t)[k]? = some c) (h1 : 1 ≤ n) (h2 : lastOf (cuts t) k + n = c) :
    lastOf (cuts t) k + n = t.length ∨ n = 16 ∨ (2 ≤ n ∧ refSum ((t.drop (lastOf (cuts t) k)).take n) % 8 = 0) := by
  obtain ⟨a, b, c', d⟩ := cuts_inv h
  obtain ⟨-, g⟩ := run_inv2 t t.length
  have g := (g k c h).1
  have g' : cutAt t (lastOf (cuts t) k) (lastOf (cuts t) k + n - 1) = true := by rw [h2]; exact g
  rw [refSum_drop t _ n (by omega)]
  unfold cutAt at g'
  rw [show lastOf (cuts t) k + n - 1 + 1 = lastOf (cuts t) k + n from by omega, show max (lastOf (cuts t) k) (lastOf (cuts t) k + n - 1 - 3) = lastOf (cuts t) k + (n - 4) from by omega] at g'
  simp at g'
  omega

theorem cuts_more {t : List UInt8} {k : Nat} (hk : k ≤ (cuts t).length) (h : lastOf (cuts t) k < t.length) : k < (cuts t).length := by
  rcases Nat.lt_or_ge k (cuts t).length with h' | h'
  · exact h'
  · have e : k = (cuts t).length := by omega
    rw [e, cuts_end] at h
    omega
theorem cuts_done {t : List UInt8} {k : Nat} (hk : k ≤ (cuts t).length) (h : t.length ≤ lastOf (cuts t) k) : k = (cuts t).length := by
  rcases Nat.lt_or_ge k (cuts t).length with h' | h'
  · have := cuts_inv (List.getElem?_eq_getElem h')
    omega
  · omega

end Go.Proofs.YtnkihdkcmhbhkaaDoor.Chunk
