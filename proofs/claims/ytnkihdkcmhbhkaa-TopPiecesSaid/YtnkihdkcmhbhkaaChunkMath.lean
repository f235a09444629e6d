/- Where a text is cut, as plain functions on lists of bytes: no program in sight. -/
namespace Go.Proofs.Ytnkihdkcmhbhkaa.Chunk

/-- the rolling sum of the bytes from lo on, below hi -/
def sumB (t : List UInt8) (lo hi : Nat) : Nat := ((t.take hi).drop lo).foldl (fun s c => (s * 3 + c.toNat) % 251) 0

theorem sumB_start (t : List UInt8) (lo : Nat) : sumB t lo lo = 0 := by
  unfold sumB
  rw [List.drop_eq_nil_of_le (by simp; omega)]; rfl

theorem sumB_step (t : List UInt8) (lo k : Nat) (c : UInt8) (h : lo ≤ k) (hc : t[k]? = some c) : sumB t lo (k + 1) = (sumB t lo k * 3 + c.toNat) % 251 := by
  unfold sumB
  have hk : k < t.length := by
    rcases Nat.lt_or_ge k t.length with h | h
    · exact h
    · rw [List.getElem?_eq_none h] at hc; cases hc
  rw [List.take_add_one, hc, List.drop_append_of_le_length (by simp; omega), List.foldl_append]
  rfl

theorem sumB_lt (t : List UInt8) (lo hi : Nat) : sumB t lo hi < 251 := by
  unfold sumB
  generalize (t.take hi).drop lo = l
  suffices ∀ (l : List UInt8) a, a < 251 → l.foldl (fun s c => (s * 3 + c.toNat) % 251) a < 251 from this l 0 (by omega)
  intro l
  induction l with
  | nil => intro a h; exact h
  | cons c l ih => intro a _; exact ih _ (Nat.mod_lt _ (by omega))

/-- is the text cut behind byte i, where the piece began at f? -/
def cutAt (t : List UInt8) (f i : Nat) : Bool := i + 1 == t.length || (i + 1 - f == 16 || (decide (2 ≤ i + 1 - f) && sumB t (max f (i - 3)) (i + 1) % 8 == 0))

/-- behind i bytes: where the piece began; the cuts -/
def run (t : List UInt8) : Nat → Nat × List Nat
  | 0 => (0, [])
  | i + 1 => if cutAt t (run t i).1 i then (i + 1, (run t i).2 ++ [i + 1]) else run t i

def cuts (t : List UInt8) : List Nat := (run t t.length).2

theorem run_le (t : List UInt8) (i : Nat) : (run t i).1 ≤ i := by
  induction i with
  | zero => simp [run]
  | succ i ih => simp only [run]; split <;> omega

theorem run_length (t : List UInt8) (i : Nat) : (run t i).2.length ≤ i := by
  induction i with
  | zero => simp [run]
  | succ i ih =>
    simp only [run]
    split
    · simp only [List.length_append, List.length_cons, List.length_nil]; omega
    · omega

theorem run_yes {t : List UInt8} {i : Nat} (h : cutAt t (run t i).1 i = true) : run t (i + 1) = (i + 1, (run t i).2 ++ [i + 1]) := by simp [run, h]
theorem run_no {t : List UInt8} {i : Nat} (h : cutAt t (run t i).1 i = false) : run t (i + 1) = run t i := by simp [run, h]

theorem cutAt_last {t : List UInt8} {f i n : Nat} (hn : t.length = n) (h : n ≤ i + 1) (hi : i < n) : cutAt t f i = true := by
  unfold cutAt
  have : i + 1 = t.length := by omega
  simp [this]
theorem cutAt_most {t : List UInt8} {f i : Nat} (h : i + 1 ≤ f + 16) (h' : f + 16 ≤ i + 1) : cutAt t f i = true := by
  unfold cutAt
  have : i + 1 - f = 16 := by omega
  simp [this]
theorem cutAt_sum {t : List UInt8} {f i S lo : Nat} (hlo : lo = max f (i - 3)) (hS : S = sumB t lo (i + 1)) (h : f + 2 ≤ i + 1) (h8 : S % 8 = 0) : cutAt t f i = true := by
  unfold cutAt
  have : 2 ≤ i + 1 - f := by omega
  rw [← hlo, ← hS]
  simp [this, h8]
theorem cutAt_not {t : List UInt8} {f i n : Nat} (hn : t.length = n) (h1 : i + 1 < n) (h2 : ¬ (i + 1 = f + 16)) (h3 : f ≤ i) (h4 : i + 1 < f + 2 ∨ 0 < sumB t (max f (i - 3)) (i + 1) % 8) : cutAt t f i = false := by
  unfold cutAt
  have e1 : (i + 1 == t.length) = false := by simp; omega
  have e2 : (i + 1 - f == 16) = false := by simp; omega
  rw [e1, e2]
  rcases h4 with h | h
  · simp; intro _; omega
  · simp; intro _; omega

end Go.Proofs.Ytnkihdkcmhbhkaa.Chunk
