/- Least and greatest of a list, and what happens when the least is used: plain lists. -/
namespace Go.Proofs.YtgiehdlkgjmojaaDoor.Wear

def IsMin (xs : List Int) (m : Int) : Prop := m ∈ xs ∧ ∀ y ∈ xs, m ≤ y
def IsMax (xs : List Int) (m : Int) : Prop := m ∈ xs ∧ ∀ y ∈ xs, y ≤ m

theorem IsMin.unique {xs : List Int} {a b : Int} (h : IsMin xs a) (k : IsMin xs b) : a = b := by
  have := h.2 b k.1; have := k.2 a h.1; omega
theorem IsMax.unique {xs : List Int} {a b : Int} (h : IsMax xs a) (k : IsMax xs b) : a = b := by
  have := h.2 b k.1; have := k.2 a h.1; omega

theorem IsMin.first {xs : List Int} {x : Int} (h : xs[0]? = some x) : IsMin (xs.take 1) x := by
  cases xs with
  | nil => simp at h
  | cons y l => simp at h; subst h; exact ⟨by simp, by simp⟩
theorem IsMax.first {xs : List Int} {x : Int} (h : xs[0]? = some x) : IsMax (xs.take 1) x := by
  cases xs with
  | nil => simp at h
  | cons y l => simp at h; subst h; exact ⟨by simp, by simp⟩
theorem IsMin.keep {xs : List Int} {k : Nat} {x m : Int} (h : IsMin (xs.take k) m) (hx : xs[k]? = some x) (hle : m ≤ x) : IsMin (xs.take (k + 1)) m := by
  rw [List.take_add_one, hx]
  exact ⟨by simp [h.1], fun y hy => by simp at hy; rcases hy with hy | hy; exact h.2 y hy; omega⟩
theorem IsMin.turn {xs : List Int} {k : Nat} {x m : Int} (h : IsMin (xs.take k) m) (hx : xs[k]? = some x) (hle : x ≤ m) : IsMin (xs.take (k + 1)) x := by
  rw [List.take_add_one, hx]
  exact ⟨by simp, fun y hy => by simp at hy; rcases hy with hy | hy; have := h.2 y hy; omega; omega⟩
theorem IsMax.keep {xs : List Int} {k : Nat} {x m : Int} (h : IsMax (xs.take k) m) (hx : xs[k]? = some x) (hle : x ≤ m) : IsMax (xs.take (k + 1)) m := by
  rw [List.take_add_one, hx]
  exact ⟨by simp [h.1], fun y hy => by simp at hy; rcases hy with hy | hy; exact h.2 y hy; omega⟩
theorem IsMax.turn {xs : List Int} {k : Nat} {x m : Int} (h : IsMax (xs.take k) m) (hx : xs[k]? = some x) (hle : m ≤ x) : IsMax (xs.take (k + 1)) x := by
  rw [List.take_add_one, hx]
  exact ⟨by simp, fun y hy => by simp at hy; rcases hy with hy | hy; have := h.2 y hy; omega; omega⟩

/-- place i holds the least, the first such -/
def IsLeast (xs : List Int) (i : Nat) : Prop := ∃ m, xs[i]? = some m ∧ IsMin xs m ∧ ∀ j x, j < i → xs[j]? = some x → x ≠ m

theorem IsLeast.unique {xs : List Int} {i j : Nat} (h : IsLeast xs i) (k : IsLeast xs j) : i = j := by
  obtain ⟨m, h1, h2, h3⟩ := h
  obtain ⟨m', k1, k2, k3⟩ := k
  have e := h2.unique k2
  subst e
  rcases Nat.lt_trichotomy i j with h | h | h
  · exact absurd rfl (k3 i m h h1)
  · exact h
  · exact absurd rfl (h3 j m h k1)

/-- the least one is used once -/
def Uses (xs ys : List Int) : Prop := ∃ i m, IsLeast xs i ∧ xs[i]? = some m ∧ ys = xs.set i (m + 1)

/-- so many uses -/
def UsesN : Nat → List Int → List Int → Prop
  | 0, xs, ys => ys = xs
  | n + 1, xs, ys => ∃ zs, UsesN n xs zs ∧ Uses zs ys

theorem Uses.unique {xs a b : List Int} (h : Uses xs a) (k : Uses xs b) : a = b := by
  obtain ⟨i, m, h1, h2, rfl⟩ := h
  obtain ⟨j, m', k1, k2, rfl⟩ := k
  have := h1.unique k1
  subst this
  rw [h2] at k2
  cases k2
  rfl
theorem UsesN.unique {n : Nat} {xs a b : List Int} (h : UsesN n xs a) (k : UsesN n xs b) : a = b := by
  induction n generalizing a b with
  | zero => exact h.trans k.symm
  | succ n ih =>
    obtain ⟨z, h1, h2⟩ := h
    obtain ⟨z', k1, k2⟩ := k
    have := ih h1 k1
    subst this
    exact h2.unique k2

theorem Uses.length {xs ys : List Int} (h : Uses xs ys) : ys.length = xs.length := by
  obtain ⟨i, m, -, -, rfl⟩ := h
  simp
theorem UsesN.length {n : Nat} {xs ys : List Int} (h : UsesN n xs ys) : ys.length = xs.length := by
  induction n generalizing ys with
  | zero => rw [show ys = xs from h]
  | succ n ih =>
    obtain ⟨zs, h1, h2⟩ := h
    rw [h2.length, ih h1]

theorem mem_set_cases {xs : List Int} {i : Nat} {v x : Int} (h : x ∈ xs.set i v) : x ∈ xs ∨ x = v := by
  rcases List.mem_or_eq_of_mem_set h with h | h
  · exact .inl h
  · exact .inr h

/-- no two are farther apart than g -/
def GapLe (xs : List Int) (g : Int) : Prop := ∀ x ∈ xs, ∀ y ∈ xs, x - y ≤ g

theorem Uses.gap {xs ys : List Int} {g : Int} (h : Uses xs ys) (hg : GapLe xs g) (h1 : 1 ≤ g) : GapLe ys g := by
  obtain ⟨i, m, ⟨m', hi, hm, -⟩, hi', rfl⟩ := h
  rw [hi] at hi'
  cases hi'
  intro x hx y hy
  rcases mem_set_cases hx with hx | hx <;> rcases mem_set_cases hy with hy | hy
  · exact hg x hx y hy
  · have := hg x hx m hm.1; omega
  · have := hm.2 y hy; omega
  · omega
theorem UsesN.gap {n : Nat} {xs ys : List Int} {g : Int} (h : UsesN n xs ys) (hg : GapLe xs g) (h1 : 1 ≤ g) : GapLe ys g := by
  induction n generalizing ys with
  | zero => rw [show ys = xs from h]; exact hg
  | succ n ih =>
    obtain ⟨zs, h2, h3⟩ := h
    exact h3.gap (ih h2) h1

/-- of one thing alone -/
theorem sum_set (xs : List Int) (i : Nat) (m v : Int) (h : xs[i]? = some m) : (xs.set i v).sum = xs.sum - m + v := by
  induction xs generalizing i with
  | nil => simp at h
  | cons x l ih =>
    cases i with
    | zero => simp at h; subst h; simp; omega
    | succ i => simp at h; simp; rw [ih i h]; omega

theorem Uses.sum {xs ys : List Int} (h : Uses xs ys) : ys.sum = xs.sum + 1 := by
  obtain ⟨i, m, -, hi, rfl⟩ := h
  rw [sum_set _ _ _ _ hi]
  omega
theorem UsesN.sum {n : Nat} {xs ys : List Int} (h : UsesN n xs ys) : ys.sum = xs.sum + n := by
  induction n generalizing ys with
  | zero => rw [show ys = xs from h]; simp
  | succ n ih =>
    obtain ⟨zs, h1, h2⟩ := h
    rw [h2.sum, ih h1]
    omega

theorem Uses.ge {xs ys : List Int} (h : Uses xs ys) (j : Nat) (x y : Int) (hx : xs[j]? = some x) (hy : ys[j]? = some y) : x ≤ y ∧ y ≤ x + 1 := by
  obtain ⟨i, m, -, hi, rfl⟩ := h
  rw [List.getElem?_set] at hy
  split at hy
  · rename_i e; subst e
    rw [hi] at hx
    cases hx
    split at hy
    · cases hy; omega
    · cases hy
  · rw [hx] at hy; cases hy; omega
theorem UsesN.ge {n : Nat} {xs ys : List Int} (h : UsesN n xs ys) (j : Nat) (x y : Int) (hx : xs[j]? = some x) (hy : ys[j]? = some y) : x ≤ y ∧ y ≤ x + n := by
  induction n generalizing ys y with
  | zero => rw [show ys = xs from h, hx] at hy; cases hy; omega
  | succ n ih =>
    obtain ⟨zs, h1, h2⟩ := h
    have hj : j < zs.length := by
      rw [← h2.length]
      rcases Nat.lt_or_ge j ys.length with h | h
      · exact h
      · rw [List.getElem?_eq_none h] at hy; cases hy
    obtain ⟨z, hz⟩ : ∃ z, zs[j]? = some z := ⟨_, List.getElem?_eq_getElem hj⟩
    have := ih h1 z hz
    have := h2.ge j z y hz hy
    omega

/-- what all lack of M -/
def lack (M : Int) (xs : List Int) : Int := xs.length * M - xs.sum

theorem sum_le_of {xs : List Int} {M : Int} (h : ∀ x ∈ xs, x ≤ M) : xs.sum ≤ xs.length * M := by
  induction xs with
  | nil => simp
  | cons x l ih =>
    have := ih (fun y hy => h y (by simp [hy]))
    have := h x (by simp)
    simp
    have e : ((l.length : Int) + 1) * M = l.length * M + M := by rw [Int.add_mul]; omega
    rw [e]; omega

/-- as long as something is lacking nothing passes M -/
theorem Uses.below {xs ys : List Int} {M : Int} (h : Uses xs ys) (hM : ∀ x ∈ xs, x ≤ M) (hl : 0 < lack M xs) : (∀ x ∈ ys, x ≤ M) ∧ lack M ys = lack M xs - 1 := by
  have hs := h.sum
  have hlen := h.length
  refine ⟨?_, by unfold lack; rw [hs, hlen]; omega⟩
  obtain ⟨i, m, ⟨m', hi, hm, -⟩, hi', rfl⟩ := h
  rw [hi] at hi'
  cases hi'
  have hlt : m < M := by
    by_cases h : m < M
    · exact h
    · exfalso
      have : ∀ x ∈ xs, x = M := fun x hx => by have := hM x hx; have := hm.2 x hx; omega
      have e : xs.sum = xs.length * M := by
        clear hi hm hs hlen hl hM
        induction xs with
        | nil => simp
        | cons x l ih =>
          have h1 := this x (by simp)
          have h2 := ih (fun y hy => this y (by simp [hy]))
          simp
          rw [h2, h1, Int.add_mul]; omega
      unfold lack at hl
      omega
  intro x hx
  rcases mem_set_cases hx with hx | hx
  · exact hM x hx
  · omega

theorem lack_zero {xs : List Int} {M : Int} (hM : ∀ x ∈ xs, x ≤ M) (hl : lack M xs = 0) : ∀ x ∈ xs, x = M := by
  induction xs with
  | nil => intro x hx; cases hx
  | cons y l ih =>
    have h1 := sum_le_of (xs := l) (fun x hx => hM x (by simp [hx]))
    have h2 := hM y (by simp)
    unfold lack at hl
    simp at hl
    rw [Int.add_mul] at hl
    have h3 : lack M l = 0 := by unfold lack; omega
    have h4 : y = M := by unfold lack at h3; omega
    intro x hx
    rcases List.mem_cons.1 hx with h | h
    · omega
    · exact ih (fun x hx => hM x (by simp [hx])) h3 x h

/-- used often enough all are used as often, or one more -/
theorem UsesN.fills {n : Nat} {xs ys : List Int} {M : Int} (h : UsesN n xs ys) (hM : ∀ x ∈ xs, x ≤ M) : (lack M xs ≤ n → GapLe ys 1) ∧ (n ≤ lack M xs → (∀ x ∈ ys, x ≤ M) ∧ lack M ys = lack M xs - n) := by
  induction n generalizing ys with
  | zero =>
    rw [show ys = xs from h]
    refine ⟨fun hl => ?_, fun _ => ⟨hM, by simp⟩⟩
    have h0 : lack M xs = 0 := by have := sum_le_of hM; unfold lack at *; omega
    have := lack_zero hM h0
    intro x hx y hy
    have := this x hx; have := lack_zero hM h0 y hy; omega
  | succ n ih =>
    obtain ⟨zs, h1, h2⟩ := h
    obtain ⟨ih1, ih2⟩ := ih h1
    constructor
    · intro hl
      by_cases hn : lack M xs ≤ n
      · exact h2.gap (ih1 hn) (by omega)
      · obtain ⟨a, b⟩ := ih2 (by omega)
        obtain ⟨c, d⟩ := h2.below a (by omega)
        have := lack_zero c (by omega)
        intro x hx y hy
        have := this x hx; have := lack_zero c (by omega) y hy; omega
    · intro hl
      obtain ⟨a, b⟩ := ih2 (by omega)
      obtain ⟨c, d⟩ := h2.below a (by omega)
      exact ⟨c, by omega⟩

end Go.Proofs.YtgiehdlkgjmojaaDoor.Wear
