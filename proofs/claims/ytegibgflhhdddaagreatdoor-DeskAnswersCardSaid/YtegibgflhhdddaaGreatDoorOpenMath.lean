/- What Open makes of a text, in plain Lean. -/
import Derived.Test.YtegibgflhhdddaaGreatDoorLines
namespace Go.Proofs.YtegibgflhhdddaaGreatDoor
open Go

/-- the whole lines of a text -/
def wholeLines (t : List UInt8) : List (List UInt8) := (cutAt 10 t).dropLast
/-- what stands behind the last line feed -/
def tailLine (t : List UInt8) : List UInt8 := (cutAt 10 t).getLastD []

theorem wholeLines_skip {t : List UInt8} (h : (10 : UInt8) ∉ t) : wholeLines t = [] ∧ tailLine t = t := by
  unfold wholeLines tailLine
  rw [cutAt_skip h]
  exact ⟨rfl, rfl⟩
theorem wholeLines_at {a b : List UInt8} (h : (10 : UInt8) ∉ a) : wholeLines (a ++ 10 :: b) = a :: wholeLines b ∧ tailLine (a ++ 10 :: b) = tailLine b := by
  unfold wholeLines tailLine
  rw [cutAt_append h]
  cases hc : cutAt 10 b with
  | nil => exact absurd hc (cutAt_ne 10 b)
  | cons x xs => exact ⟨rfl, rfl⟩

theorem cutLines_whole (t : List UInt8) : cutLines t = (wholeLines t).map (· ++ [10]) ++ (if tailLine t = [] then [] else [tailLine t]) ∧ (∀ l ∈ wholeLines t, (10 : UInt8) ∉ l) ∧ (10 : UInt8) ∉ tailLine t := by
  have key : ∀ (n : Nat) (t : List UInt8), t.length ≤ n → cutLines t = (wholeLines t).map (· ++ [10]) ++ (if tailLine t = [] then [] else [tailLine t]) ∧ (∀ l ∈ wholeLines t, (10 : UInt8) ∉ l) ∧ (10 : UInt8) ∉ tailLine t := by
    intro n
    induction n with
    | zero =>
      intro t ht
      obtain rfl : t = [] := List.length_eq_zero_iff.1 (by omega)
      exact ⟨rfl, by simp [wholeLines, cutAt], by simp [tailLine, cutAt]⟩
    | succ n ih =>
      intro t ht
      by_cases hc : (10 : UInt8) ∈ t
      · obtain ⟨a, b, rfl, ha⟩ := first_cut hc
        obtain ⟨h1, h2⟩ := wholeLines_at (b := b) ha
        obtain ⟨i1, i2, i3⟩ := ih b (by simp at ht; omega)
        rw [h1, h2, cutLines_at ha, i1]
        refine ⟨rfl, fun l hl => ?_, i3⟩
        rcases List.mem_cons.1 hl with rfl | hl
        · exact ha
        · exact i2 l hl
      · obtain ⟨h1, h2⟩ := wholeLines_skip hc
        rw [h1, h2]
        refine ⟨?_, by simp, hc⟩
        cases t with
        | nil => rfl
        | cons x xs =>
          rw [cutLines_skip hc (by simp)]
          rfl
  exact key _ t (Nat.le_refl _)

theorem cutLines_full (t : List UInt8) (k : Nat) (l : List UInt8) (h : (wholeLines t)[k]? = some l) : (cutLines t).getD k [] = l ++ [10] ∧ k < (cutLines t).length := by
  have hk := (List.getElem?_eq_some_iff.1 h).1
  obtain ⟨h1, -, -⟩ := cutLines_whole t
  rw [h1]
  refine ⟨?_, by simp; omega⟩
  rw [List.getD_eq_getElem?_getD, List.getElem?_append_left (by simpa using hk)]
  simp [h]
theorem cutLines_rest (t : List UInt8) (h : (wholeLines t).length < (cutLines t).length) : (cutLines t).getD (wholeLines t).length [] = tailLine t ∧ (cutLines t).length = (wholeLines t).length + 1 := by
  obtain ⟨h1, -, -⟩ := cutLines_whole t
  rw [h1] at h ⊢
  by_cases h0 : tailLine t = []
  · rw [if_pos h0] at h
    simp at h
  · rw [if_neg h0]
    refine ⟨?_, by simp⟩
    rw [List.getD_eq_getElem?_getD, List.getElem?_append_right (by simp)]
    simp
theorem cutLines_len (t : List UInt8) : (wholeLines t).length ≤ (cutLines t).length := by
  obtain ⟨h1, -, -⟩ := cutLines_whole t
  rw [h1]
  simp
theorem wholeLines_short (t : List UInt8) (l : List UInt8) (h : l ∈ wholeLines t) : l.length ≤ t.length :=
  cutAt_len (List.dropLast_subset _ h)

theorem wholeLines_many (t : List UInt8) : (wholeLines t).length ≤ t.length := by
  have h := cutLines_flat t
  have h2 := congrArg List.length h
  rw [(cutLines_whole t).1, List.flatten_append, List.length_append] at h2
  have h3 : ∀ L : List (List UInt8), L.length ≤ ((L.map (· ++ [10])).flatten).length := by
    intro L
    induction L with
    | nil => simp
    | cons l L ih => simp only [List.map_cons, List.flatten_cons, List.length_append, List.length_cons, List.length_nil] at ih ⊢; omega
  have := h3 (wholeLines t)
  omega

/-- one line more, and all was well so far -/
theorem Bk.lines_snoc {b b' : Bk} {L : List (List UInt8)} {k : Nat} (h : b.lines L = (b', 0, k)) (l : List UInt8) (M : List (List UInt8)) : b.lines (L ++ l :: M) =
    if b'.cmdE (parse l) = 0 then (((b'.cmd (parse l)).lines M).1, ((b'.cmd (parse l)).lines M).2.1, ((b'.cmd (parse l)).lines M).2.2 + k + 1) else (b', b'.cmdE (parse l), k + 1) := by
  induction L generalizing b k with
  | nil =>
    simp only [Bk.lines, Prod.mk.injEq] at h
    obtain ⟨rfl, -, rfl⟩ := h
    rw [List.nil_append]
    conv => lhs; unfold Bk.lines
  | cons x L ih =>
    rw [List.cons_append]
    conv => lhs; unfold Bk.lines
    unfold Bk.lines at h
    split at h
    · rename_i hx
      rw [if_pos hx]
      simp only [Prod.mk.injEq] at h
      obtain ⟨h1, h2, h3⟩ := h
      obtain ⟨k', rfl⟩ : ∃ k', k = k' + 1 := ⟨k - 1, by omega⟩
      have := ih (b := b.cmd (parse x)) (k := k') (by rw [← h1, ← h2]; exact Prod.ext rfl (Prod.ext rfl (by simp only; omega)))
      simp only [this]
      split <;> simp <;> omega
    · rename_i hx
      simp only [Prod.mk.injEq] at h
      exact absurd h.2.1 hx

/-- what Open answers: the book, how many lines, what is wrong -/
def openB (t : List UInt8) : Option Bk := if 2000 < t.length then none else if (Bk.new.lines (wholeLines t)).2.1 = 0 then some (Bk.new.lines (wholeLines t)).1.whole else none
def openN (t : List UInt8) : Nat := if 2000 < t.length then 0 else (Bk.new.lines (wholeLines t)).2.2
def openE (t : List UInt8) : Nat := if 2000 < t.length then 4 else (Bk.new.lines (wholeLines t)).2.1

end Go.Proofs.YtegibgflhhdddaaGreatDoor
