/- The pieces of a text: plain lists. -/
import Derived.Test.YtnkihdkcmhbhkaaChunkBeg
namespace Go.Proofs.Ytnkihdkcmhbhkaa.Chunk

/-- the place behind which piece k begins -/
def lastOf (cs : List Nat) : Nat → Nat
  | 0 => 0
  | k + 1 => cs[k]?.getD 0

def piecesB (s : ByteArray) (cs : List Nat) (k : Nat) : List ByteArray := (List.range k).map fun j => s.extract (lastOf cs j) (cs[j]?.getD 0)

theorem piecesB_step (s : ByteArray) {cs : List Nat} {k c : Nat} (h : cs[k]? = some c) : piecesB s cs (k + 1) = piecesB s cs k ++ [s.extract (lastOf cs k) c] := by
  unfold piecesB
  rw [List.range_succ, List.map_append]
  simp [h]

theorem piecesB_length (s : ByteArray) (cs : List Nat) (k : Nat) : (piecesB s cs k).length = k := by simp [piecesB]

theorem piecesB_get (s : ByteArray) {cs : List Nat} {n k c : Nat} (hk : k < n) (h : cs[k]? = some c) : (piecesB s cs n)[k]? = some (s.extract (lastOf cs k) c) := by
  unfold piecesB
  rw [List.getElem?_map, List.getElem?_range hk]
  simp [h]

def Inv (t : List UInt8) (f : Nat) (l : List Nat) (i : Nat) : Prop :=
  f = lastOf l l.length ∧ f ≤ i ∧ (i < f + 16) ∧ ∀ k c, l[k]? = some c → lastOf l k < c ∧ c ≤ i ∧ c ≤ lastOf l k + 16 ∧ (lastOf l k + 2 ≤ c ∨ c = t.length)

theorem lastOf_append (l : List Nat) (x k : Nat) (hk : k ≤ l.length) : lastOf (l ++ [x]) k = lastOf l k := by
  cases k with
  | zero => rfl
  | succ k => simp only [lastOf]; rw [List.getElem?_append_left (by omega)]

theorem cutAt_cases {t : List UInt8} {f i : Nat} (h : cutAt t f i = true) : i + 1 = t.length ∨ i + 1 - f = 16 ∨ 2 ≤ i + 1 - f := by
  unfold cutAt at h
  simp at h
  omega

theorem cutAt_false {t : List UInt8} {f i : Nat} (h : cutAt t f i = false) : i + 1 - f ≠ 16 := by
  unfold cutAt at h
  simp at h
  omega

theorem run_inv (t : List UInt8) (i : Nat) : Inv t (run t i).1 (run t i).2 i := by
  induction i with
  | zero => exact ⟨rfl, Nat.le_refl _, by simp [run], by simp [run]⟩
  | succ i ih =>
    obtain ⟨h1, h2, h3, h4⟩ := ih
    by_cases hc : cutAt t (run t i).1 i = true
    · rw [run_yes hc]
      refine ⟨by simp [lastOf], Nat.le_refl _, by simp, ?_⟩
      intro k c hk
      by_cases hl : k < (run t i).2.length
      · rw [lastOf_append _ _ _ (by omega)]
        rw [List.getElem?_append_left hl] at hk
        obtain ⟨a, b, c', d⟩ := h4 k c hk
        exact ⟨a, by omega, c', d⟩
      · have hk' : k = (run t i).2.length := by
          rcases Nat.lt_or_ge k ((run t i).2.length + 1) with h | h
          · omega
          · rw [List.getElem?_eq_none (by simp; omega)] at hk; cases hk
        subst hk'
        rw [lastOf_append _ _ _ (Nat.le_refl _), ← h1]
        simp at hk
        subst hk
        have := cutAt_cases hc
        omega
    · have hc' : cutAt t (run t i).1 i = false := by simpa using hc
      rw [run_no hc']
      have := cutAt_false hc'
      refine ⟨h1, by omega, by omega, ?_⟩
      intro k c hk
      obtain ⟨a, b, c', d⟩ := h4 k c hk
      exact ⟨a, by omega, c', d⟩

theorem cuts_inv {t : List UInt8} {k c : Nat} (h : (cuts t)[k]? = some c) : lastOf (cuts t) k < c ∧ c ≤ t.length ∧ c ≤ lastOf (cuts t) k + 16 ∧ (lastOf (cuts t) k + 2 ≤ c ∨ c = t.length) :=
  (run_inv t t.length).2.2.2 k c h

theorem cuts_end (t : List UInt8) : lastOf (cuts t) (cuts t).length = t.length := by
  by_cases h : t = []
  · subst h; rfl
  · rw [cuts_last h]; simp [lastOf]

theorem cuts_length (t : List UInt8) : (cuts t).length ≤ t.length := run_length t t.length

end Go.Proofs.Ytnkihdkcmhbhkaa.Chunk
