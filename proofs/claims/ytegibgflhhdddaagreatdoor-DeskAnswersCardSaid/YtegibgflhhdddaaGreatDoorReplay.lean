/- Opening what was put down, in plain Lean: the lines of a book say how it came to be. -/
import Derived.Test.YtegibgflhhdddaaGreatDoorOpenMath
namespace Go.Proofs.YtegibgflhhdddaaGreatDoor
open Go Go.Lib

theorem dec_feed32 (u : Nat) : (32 : UInt8) ∉ decDigits u := dec_feed u 32 (by decide)

theorem parse_lineOf (word : List UInt8) : parse (lineOf word) = (match nums (cutAt 32 word).tail with
    | none => .bad 2
    | some ns => cmdOf ((cutAt 32 word).headD []) ns) := by
  have h1 : lastCut 32 (lineOf word) = some (word, decDigits (wsum word)) := lastCut_some.2 ⟨rfl, dec_feed32 _⟩
  have h2 : numOf (decDigits (wsum word)) = some (wsum word) := numOf_dec (by have := wsum_lt word; omega)
  simp only [parse, h1, h2, if_true]
  cases nums (cutAt 32 word).tail <;> rfl
theorem parse_w {p v : Nat} (hp : p < 9223372036854775808) (hv : v < 9223372036854775808) : parse (lineOf (wW p v)) = .w p v := by
  rw [parse_lineOf]
  have h1 : cutAt 32 (wW p v) = [[119], decDigits p, decDigits v] := by
    have e : wW p v = [119] ++ 32 :: (decDigits p ++ 32 :: decDigits v) := rfl
    rw [e, cutAt_append (by decide), cutAt_append (dec_feed32 p), cutAt_skip (dec_feed32 v)]
  rw [h1]
  simp only [List.tail_cons, nums, numOf_dec hp, numOf_dec hv]
  rfl
theorem parse_d : parse (lineOf wD) = .d := by
  rw [parse_lineOf]
  have h1 : cutAt 32 wD = [wD] := cutAt_skip (by decide)
  rw [h1]
  rfl

/-- its lines replayed give the book -/
def Bk.told (b : Bk) : Prop := Bk.new.lines b.T = (b, 0, b.T.length)

theorem Bk.told_new : Bk.new.told := rfl
theorem Bk.told_snoc {b b' : Bk} {l : List UInt8} (h : b.told) (hc : b.cmdE (parse l) = 0) (hb : b.cmd (parse l) = b') (hT : b'.T = b.T ++ [l]) : b'.told := by
  unfold Bk.told
  rw [hT, Bk.lines_snoc h l [], if_pos hc, hb]
  simp [Bk.lines]
theorem Bk.told.write {b : Bk} (h : b.told) (p v : Int) : (b.write p v).told := by
  by_cases hE : b.writeE p v = 0
  · have hw : okW p v := by
      unfold Bk.writeE at hE
      split at hE
      · assumption
      · cases hE
    obtain ⟨a1, a2, a3, a4⟩ := hw
    have hp : ((p.toNat : Nat) : Int) = p := by omega
    have hv : ((v.toNat : Nat) : Int) = v := by omega
    have hx : parse (lineOf (wW p.toNat v.toNat)) = .w p.toNat v.toNat := parse_w (by omega) (by omega)
    refine Bk.told_snoc (l := lineOf (wW p.toNat v.toNat)) h ?_ ?_ ?_
    · rw [hx]; show b.writeE _ _ = 0; rw [hp, hv]; exact hE
    · rw [hx]; show b.write _ _ = _; rw [hp, hv]
    · unfold Bk.write; rw [if_pos hE]; rfl
  · unfold Bk.write
    rw [if_neg hE]
    exact h
theorem Bk.told.done {b : Bk} (h : b.told) : b.done.told := by
  by_cases h60 : b.T.length = 60
  · unfold Bk.done
    rw [if_pos h60]
    exact h
  · refine Bk.told_snoc (l := lineOf wD) h ?_ ?_ ?_
    · rw [parse_d]; show b.doneE = 0; unfold Bk.doneE; rw [if_neg h60]
    · rw [parse_d]; rfl
    · unfold Bk.done; rw [if_neg h60]; rfl

theorem wholeLines_text (T : List (List UInt8)) (r : List UInt8) (h : ∀ l ∈ T, (10 : UInt8) ∉ l) (hr : (10 : UInt8) ∉ r) : wholeLines ((T.map (· ++ [10])).flatten ++ r) = T ∧ tailLine ((T.map (· ++ [10])).flatten ++ r) = r := by
  induction T with
  | nil => exact wholeLines_skip hr
  | cons l T ih =>
    obtain ⟨i1, i2⟩ := ih (fun x hx => h x (List.mem_cons_of_mem _ hx))
    have e : ((l :: T).map (· ++ [10])).flatten ++ r = l ++ 10 :: ((T.map (· ++ [10])).flatten ++ r) := by simp
    obtain ⟨j1, j2⟩ := wholeLines_at (b := (T.map (· ++ [10])).flatten ++ r) (h l List.mem_cons_self)
    rw [e, j1, j2, i1, i2]
    exact ⟨rfl, rfl⟩

/-- a beginning of the text is some whole lines and a beginning of the next -/
theorem text_front : ∀ (T : List (List UInt8)) (n : Nat), (∀ l ∈ T, (10 : UInt8) ∉ l) → ∃ k r, k ≤ T.length ∧ (10 : UInt8) ∉ r ∧ ((T.map (· ++ [10])).flatten).take n = ((T.take k).map (· ++ [10])).flatten ++ r
  | [], n, _ => ⟨0, [], Nat.le_refl _, by simp, by simp⟩
  | l :: T, n, h => by
    have hl := h l List.mem_cons_self
    have e : ((l :: T).map (· ++ [10])).flatten = (l ++ [10]) ++ (T.map (· ++ [10])).flatten := by simp
    rw [e]
    by_cases hn : n ≤ l.length
    · refine ⟨0, l.take n, Nat.zero_le _, fun hx => hl (List.mem_of_mem_take hx), ?_⟩
      rw [List.append_assoc, List.take_append_of_le_length hn]
      rfl
    · obtain ⟨k, r, hk, hr, he⟩ := text_front T (n - (l.length + 1)) (fun x hx => h x (List.mem_cons_of_mem _ hx))
      refine ⟨k + 1, r, by simp; omega, hr, ?_⟩
      rw [List.take_append, List.take_of_length_le (by simp; omega)]
      have e2 : n - (l ++ [10]).length = n - (l.length + 1) := by simp
      rw [e2, he]
      simp

/-- all is well with the first lines of a book that was told so -/
theorem Bk.lines_front {b b' : Bk} : ∀ {L M : List (List UInt8)} {k : Nat}, b.lines (L ++ M) = (b', 0, k) → ∃ c, b.lines L = (c, 0, L.length) := by
  intro L
  induction L generalizing b with
  | nil => intro M k _; exact ⟨b, rfl⟩
  | cons x L ih =>
    intro M k h
    rw [List.cons_append] at h
    unfold Bk.lines at h ⊢
    split at h
    · rename_i hx
      simp only [Prod.mk.injEq] at h
      obtain ⟨c, hc⟩ := ih (b := b.cmd (parse x)) (M := M) (k := k - 1) (Prod.ext h.1 (Prod.ext h.2.1 (by have := h.2.2; simp only; omega)))
      refine ⟨c, ?_⟩
      rw [if_pos hx, hc]
      rfl
    · rename_i hx
      simp only [Prod.mk.injEq] at h
      exact absurd h.2.1 hx

/-- a book's own text, opened -/
theorem open_told {c : Bk} (h : c.ok ∧ c.told) : openB c.text = some c.whole ∧ openN c.text = c.T.length ∧ openE c.text = 0 := by
  have h1 : ¬ 2000 < c.text.length := by have := Bk.text_small h.1; omega
  have h2 : wholeLines c.text = c.T := by
    have h3 := (wholeLines_text c.T [] h.1.feed (by simp)).1
    rwa [List.append_nil] at h3
  have h4 : Bk.new.lines c.T = (c, 0, c.T.length) := h.2
  unfold openB openN openE
  rw [if_neg h1, if_neg h1, if_neg h1, h2, h4]
  exact ⟨rfl, rfl, rfl⟩
theorem whole_same {c : Bk} (h : c.G = []) : c.whole = c := by
  unfold Bk.whole
  rw [h]
  cases c
  simp_all

end Go.Proofs.YtegibgflhhdddaaGreatDoor
