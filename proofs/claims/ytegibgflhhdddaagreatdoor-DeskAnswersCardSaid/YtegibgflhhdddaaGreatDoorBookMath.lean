/- The book in plain Lean: numerals, sums, lines, what a line says, what a book becomes. No program in it. -/
import Derived.Lib.ItoaNum
import Derived.Lib.AtoiAll
namespace Go.Proofs.YtegibgflhhdddaaGreatDoor
open Go Go.Lib

/-- what digits say -/
def valOf (l : List UInt8) : Nat := l.foldl (fun a c => a * 10 + (c.toNat - 48)) 0

theorem digit_val (d : Nat) (h : d < 10) : (UInt8.ofNat (48 + d)).toNat = 48 + d := by
  rw [UInt8.toNat_ofNat']; omega

theorem decDigits_big {u : Nat} (h : ¬ u < 10) : decDigits u = decDigits (u / 10) ++ [UInt8.ofNat (48 + u % 10)] := by
  rw [decDigits, dif_neg h]

theorem valOf_snoc (l : List UInt8) (c : UInt8) : valOf (l ++ [c]) = valOf l * 10 + (c.toNat - 48) := by
  unfold valOf; rw [List.foldl_append]; rfl

theorem valOf_dec (u : Nat) : valOf (decDigits u) = u := by
  induction u using Nat.strongRecOn with
  | _ u ih =>
    by_cases h : u < 10
    · rw [decDigits_one h]
      have := digit_val u h
      simp only [valOf, List.foldl_cons, List.foldl_nil]
      omega
    · rw [decDigits_big h, valOf_snoc, ih (u / 10) (by omega), digit_val _ (by omega)]
      omega

theorem dec_ne_nil (u : Nat) : decDigits u ≠ [] := by
  intro h
  have := decDigits_length u
  rw [h] at this
  have := nDigits_pos u
  simp at *
  omega

theorem dec_digit {u : Nat} : ∀ c ∈ decDigits u, 48 ≤ c.toNat ∧ c.toNat ≤ 57 := by
  induction u using Nat.strongRecOn with
  | _ u ih =>
    intro c hc
    by_cases h : u < 10
    · rw [decDigits_one h] at hc
      simp only [List.mem_singleton] at hc
      rw [hc, digit_val u h]
      omega
    · rw [decDigits_big h] at hc
      rcases List.mem_append.1 hc with hc | hc
      · exact ih (u / 10) (by omega) c hc
      · simp only [List.mem_singleton] at hc
        rw [hc, digit_val _ (by omega)]
        omega

/-- the number that a text is, if it is one -/
def numOf (s : List UInt8) : Option Nat := if decDigits (valOf s) = s ∧ valOf s < 9223372036854775808 then some (valOf s) else none

theorem numOf_some {s : List UInt8} {n : Nat} : numOf s = some n ↔ decDigits n = s ∧ n < 9223372036854775808 := by
  unfold numOf
  constructor
  · intro h
    split at h
    · rename_i hc
      have := Option.some.inj h
      rw [← this]
      exact hc
    · cases h
  · rintro ⟨rfl, h⟩
    rw [valOf_dec, if_pos ⟨rfl, h⟩]

theorem numOf_none {s : List UInt8} : numOf s = none ↔ ∀ n, n < 9223372036854775808 → decDigits n ≠ s := by
  constructor
  · intro h n hn e
    have := numOf_some.2 ⟨e, hn⟩
    rw [h] at this
    cases this
  · intro h
    cases hs : numOf s with
    | none => rfl
    | some n =>
      obtain ⟨h1, h2⟩ := numOf_some.1 hs
      exact absurd h1 (h n h2)

theorem numOf_dec {n : Nat} (h : n < 9223372036854775808) : numOf (decDigits n) = some n := numOf_some.2 ⟨rfl, h⟩

/-- Atoi at a numeral -/
theorem parseUint10_all (l : List UInt8) (hl : ∀ x ∈ l, 48 ≤ x.toNat ∧ x.toNat ≤ 57) : ∀ acc : Nat, (l.foldl (fun a c => a * 10 + (c.toNat - 48)) acc) < 9223372036854775808 → parseUint10 acc l = .ok (l.foldl (fun a c => a * 10 + (c.toNat - 48)) acc) := by
  induction l with
  | nil => intro acc _; rfl
  | cons c r ih =>
    intro acc h
    have hc := hl c List.mem_cons_self
    have hmono : ∀ (l : List UInt8) (a : Nat), a ≤ l.foldl (fun a c => a * 10 + (c.toNat - 48)) a := by
      intro l
      induction l with
      | nil => intro a; exact Nat.le_refl _
      | cons x l ih2 =>
        intro a
        rw [List.foldl_cons]
        have := ih2 (a * 10 + (x.toNat - 48))
        omega
    rw [List.foldl_cons] at h ⊢
    have hm := hmono r (acc * 10 + (c.toNat - 48))
    rw [parseUint10, if_pos hc, if_neg (by omega), if_neg (by omega)]
    exact ih (fun x hx => hl x (List.mem_cons_of_mem _ hx)) _ h

theorem atoi_dec {n : Nat} (h : n < 9223372036854775808) : atoiAll (decDigits n) = .ok (n : Int) := by
  have hv : (decDigits n).foldl (fun a c => a * 10 + (c.toNat - 48)) 0 = n := valOf_dec n
  have hp := parseUint10_all (decDigits n) (dec_digit (u := n)) 0 (by rw [hv]; exact h)
  rw [hv] at hp
  have hne := dec_ne_nil n
  have hd := dec_digit (u := n)
  revert hp hne hd
  generalize decDigits n = l
  intro hp hne hd
  cases l with
  | nil => exact absurd rfl hne
  | cons c r =>
    have hc := hd c List.mem_cons_self
    have e1 : ¬ (c.toNat = 43 ∨ c.toNat = 45) := by omega
    have e2 : ¬ c.toNat = 45 := by omega
    have e3 : ¬ (9223372036854775808 ≤ n) := by omega
    have hm : parseMag (c :: r) = .ok n := by unfold parseMag; rw [if_neg (List.cons_ne_nil c r)]; exact hp
    unfold atoiAll
    dsimp only
    rw [if_neg e1, hm]
    simp only [e2, e3, not_false_eq_true, true_and, false_and, if_false]

theorem atoi_range {l : List UInt8} {v : Int} (h : atoiAll l = .ok v) : -9223372036854775808 ≤ v ∧ v ≤ 9223372036854775807 := by
  unfold atoiAll at h
  split at h
  · cases h
  · rename_i c r
    simp only at h
    split at h
    · cases h
    · cases h
    · rename_i u hu
      split at h
      · cases h
      · split at h
        · cases h
        · injection h with h
          split at h <;> omega

theorem atoi_lt {l : List UInt8} {v : Int} (h : atoiAll l = .ok v) (h0 : 0 ≤ v) : v.toNat < 9223372036854775808 := by
  unfold atoiAll at h
  split at h
  · cases h
  · rename_i c r
    simp only at h
    split at h
    · cases h
    · cases h
    · rename_i u hu
      split at h
      · cases h
      · split at h
        · cases h
        · injection h with h
          split at h <;> omega

/-- the sum of a word whose first byte has place k + 1 -/
def sumFrom (k : Nat) : List UInt8 → Nat
  | [] => 0
  | c :: r => (k + 1) * c.toNat + sumFrom (k + 1) r
def wsum (l : List UInt8) : Nat := sumFrom 0 l % 9973

theorem sumFrom_append (a b : List UInt8) : ∀ k, sumFrom k (a ++ b) = sumFrom k a + sumFrom (k + a.length) b := by
  induction a with
  | nil => intro k; simp [sumFrom]
  | cons c r ih =>
    intro k
    simp only [List.cons_append, sumFrom, ih, List.length_cons]
    rw [show k + 1 + r.length = k + (r.length + 1) by omega]
    omega
theorem sumFrom_le (l : List UInt8) : ∀ k, sumFrom k l ≤ l.length * ((k + l.length) * 255) := by
  induction l with
  | nil => intro k; simp [sumFrom]
  | cons c r ih =>
    intro k
    have h1 := ih (k + 1)
    have h2 : c.toNat ≤ 255 := by have := c.toNat_lt; omega
    have h3 : (k + 1) * c.toNat ≤ (k + (r.length + 1)) * 255 := Nat.mul_le_mul (by omega) h2
    simp only [sumFrom, List.length_cons]
    rw [show k + 1 + r.length = k + (r.length + 1) by omega] at h1
    rw [Nat.add_mul (r.length) 1, Nat.one_mul]
    have h4 : sumFrom (k + 1) r ≤ r.length * ((k + (r.length + 1)) * 255) := h1
    generalize r.length * ((k + (r.length + 1)) * 255) = A at h4 ⊢
    generalize (k + (r.length + 1)) * 255 = C at h3 ⊢
    generalize (k + 1) * c.toNat = D at h3 ⊢
    omega
theorem sumFrom_snoc (l : List UInt8) (c : UInt8) (k : Nat) : sumFrom k (l ++ [c]) = sumFrom k l + (k + l.length + 1) * c.toNat := by
  rw [sumFrom_append]; simp [sumFrom]

/-- a text cut at a byte -/
def cutAt (c : UInt8) : List UInt8 → List (List UInt8)
  | [] => [[]]
  | x :: r => if x = c then [] :: cutAt c r else (match cutAt c r with | [] => [[x]] | h :: t => (x :: h) :: t)

theorem cutAt_ne (c : UInt8) (l : List UInt8) : cutAt c l ≠ [] := by
  cases l with
  | nil => simp [cutAt]
  | cons x r =>
    unfold cutAt
    split
    · simp
    · split <;> simp

theorem cutAt_skip {c : UInt8} {a : List UInt8} (h : c ∉ a) : cutAt c a = [a] := by
  induction a with
  | nil => rfl
  | cons x r ih =>
    rw [List.mem_cons, not_or] at h
    rw [cutAt, if_neg (Ne.symm h.1), ih h.2]
theorem cutAt_append {c : UInt8} {a b : List UInt8} (h : c ∉ a) : cutAt c (a ++ c :: b) = a :: cutAt c b := by
  induction a with
  | nil => rw [List.nil_append, cutAt, if_pos rfl]
  | cons x r ih =>
    rw [List.mem_cons, not_or] at h
    rw [List.cons_append, cutAt, if_neg (Ne.symm h.1), ih h.2]

/-- what stands ahead of the last byte c, and what behind it -/
def lastCut (c : UInt8) : List UInt8 → Option (List UInt8 × List UInt8)
  | [] => none
  | x :: r => match lastCut c r with
    | some (a, b) => some (x :: a, b)
    | none => if x = c then some ([], r) else none

theorem lastCut_none {c : UInt8} {l : List UInt8} : lastCut c l = none ↔ c ∉ l := by
  induction l with
  | nil => simp [lastCut]
  | cons x r ih =>
    unfold lastCut
    cases h : lastCut c r with
    | none =>
      have := ih.1 h
      by_cases hx : x = c
      · simp [hx]
      · simp [hx, this, Ne.symm hx]
    | some p =>
      have : c ∈ r := by
        by_cases hm : c ∈ r
        · exact hm
        · rw [ih.2 hm] at h; cases h
      simp [this]
theorem lastCut_some {c : UInt8} {l a b : List UInt8} : lastCut c l = some (a, b) ↔ l = a ++ c :: b ∧ c ∉ b := by
  induction l generalizing a with
  | nil => simp [lastCut]
  | cons x r ih =>
    unfold lastCut
    cases h : lastCut c r with
    | none =>
      have hr := lastCut_none.1 h
      by_cases hx : x = c
      · subst hx
        simp only [if_pos, Option.some.injEq, Prod.mk.injEq]
        constructor
        · rintro ⟨rfl, rfl⟩
          exact ⟨rfl, hr⟩
        · rintro ⟨e, hb⟩
          cases a with
          | nil => simp at e; exact ⟨rfl, e⟩
          | cons y a =>
            simp only [List.cons_append, List.cons.injEq] at e
            exact absurd (by rw [e.2]; simp) hr
      · simp only [if_neg hx]
        constructor
        · intro e; cases e
        · rintro ⟨e, hb⟩
          cases a with
          | nil => simp at e; exact absurd e.1 hx
          | cons y a =>
            simp only [List.cons_append, List.cons.injEq] at e
            exact absurd (by rw [e.2]; simp) hr
    | some p =>
      obtain ⟨a', b'⟩ := p
      simp only [Option.some.injEq, Prod.mk.injEq]
      have hr : c ∈ r := by
        by_cases hm : c ∈ r
        · exact hm
        · rw [lastCut_none.2 hm] at h; cases h
      constructor
      · rintro ⟨rfl, rfl⟩
        obtain ⟨e1, e2⟩ := (ih (a := a')).1 h
        exact ⟨by rw [e1]; rfl, e2⟩
      · rintro ⟨e, hb⟩
        cases a with
        | nil =>
          simp only [List.nil_append, List.cons.injEq] at e
          rw [e.2] at hr
          exact absurd hr hb
        | cons y a =>
          simp only [List.cons_append, List.cons.injEq] at e
          have := (ih (a := a)).2 ⟨e.2, hb⟩
          rw [h] at this
          simp only [Option.some.injEq, Prod.mk.injEq] at this
          exact ⟨by rw [this.1, e.1], this.2⟩

/-- a line of a log, by its word -/
def lineOf (word : List UInt8) : List UInt8 := word ++ 32 :: decDigits (wsum word)
def wW (p v : Nat) : List UInt8 := 119 :: 32 :: (decDigits p ++ 32 :: decDigits v)
def wD : List UInt8 := [100]

/-- a book: its blocks, the group that waits, the lines that were put down -/
structure Bk where
  B : List Nat
  G : List (Nat × Nat)
  T : List (List UInt8)

def Bk.new : Bk := ⟨List.replicate 8 0, [], []⟩
def Bk.text (b : Bk) : List UInt8 := (b.T.map (· ++ [10])).flatten
def applyG (B : List Nat) (G : List (Nat × Nat)) : List Nat := G.foldl (fun B p => B.set p.1 p.2) B

/-- may it be written? -/
def okW (p v : Int) : Prop := 0 ≤ p ∧ p ≤ 7 ∧ 0 ≤ v ∧ v ≤ 1000
instance (p v : Int) : Decidable (okW p v) := by unfold okW; infer_instance
def Bk.put (b : Bk) (p v : Nat) : Bk := ⟨b.B, b.G ++ [(p, v)], b.T ++ [lineOf (wW p v)]⟩
def Bk.close (b : Bk) : Bk := ⟨applyG b.B b.G, [], b.T ++ [lineOf wD]⟩
def Bk.writeE (b : Bk) (p v : Int) : Nat := if okW p v then (if b.T.length = 60 then 4 else 0) else 1
def Bk.write (b : Bk) (p v : Int) : Bk := if b.writeE p v = 0 then b.put p.toNat v.toNat else b
def Bk.doneE (b : Bk) : Nat := if b.T.length = 60 then 4 else 0
def Bk.doneN (b : Bk) : Nat := if b.T.length = 60 then 0 else b.G.length
def Bk.done (b : Bk) : Bk := if b.T.length = 60 then b else b.close

/-- what every book is -/
structure Bk.ok (b : Bk) : Prop where
  len : b.B.length = 8
  vals : ∀ x ∈ b.B, x ≤ 1000
  grp : ∀ q ∈ b.G, q.1 < 8 ∧ q.2 ≤ 1000
  many : b.T.length ≤ 60
  waits : b.G.length ≤ b.T.length
  short : ∀ l ∈ b.T, l.length ≤ 16
  feed : ∀ l ∈ b.T, (10 : UInt8) ∉ l

/-- numbers of words, all or none -/
def nums : List (List UInt8) → Option (List Nat)
  | [] => some []
  | s :: r => match numOf s with
    | none => none
    | some n => (nums r).map (n :: ·)

/-- what a line says -/
inductive Cmd where
  | w (p v : Nat)
  | d
  | bad (e : Nat)
  deriving DecidableEq

def cmdOf (head : List UInt8) (ns : List Nat) : Cmd :=
  if head = [119] ∧ ns.length = 2 then .w (ns.getD 0 0) (ns.getD 1 0) else if head = [100] ∧ ns.length = 0 then .d else .bad 2

def parse (l : List UInt8) : Cmd := match lastCut 32 l with
  | none => .bad 2
  | some (word, num) => match numOf num with
    | none => .bad 2
    | some n => if n = wsum word then (match nums (cutAt 32 word).tail with
        | none => .bad 2
        | some ns => cmdOf ((cutAt 32 word).headD []) ns) else .bad 6

def Bk.cmdE (b : Bk) : Cmd → Nat
  | .w p v => b.writeE p v
  | .d => b.doneE
  | .bad e => e
def Bk.cmd (b : Bk) : Cmd → Bk
  | .w p v => b.write p v
  | .d => b.done
  | .bad _ => b

/-- the book behind lines, what is wrong, how many lines were gone through -/
def Bk.lines (b : Bk) : List (List UInt8) → Bk × Nat × Nat
  | [] => (b, 0, 0)
  | l :: r => if b.cmdE (parse l) = 0 then (let x := (b.cmd (parse l)).lines r; (x.1, x.2.1, x.2.2 + 1)) else (b, b.cmdE (parse l), 1)

/-- the book without the group that waits -/
def Bk.whole (b : Bk) : Bk := ⟨b.B, [], b.T.take (b.T.length - b.G.length)⟩

theorem applyG_length (G : List (Nat × Nat)) : ∀ B : List Nat, (applyG B G).length = B.length := by
  induction G with
  | nil => intro B; rfl
  | cons q G ih => intro B; unfold applyG at *; rw [List.foldl_cons, ih, List.length_set]
theorem applyG_vals (G : List (Nat × Nat)) (hG : ∀ q ∈ G, q.1 < 8 ∧ q.2 ≤ 1000) : ∀ B : List Nat, (∀ x ∈ B, x ≤ 1000) → ∀ x ∈ applyG B G, x ≤ 1000 := by
  induction G with
  | nil => intro B h; exact h
  | cons q G ih =>
    intro B h
    unfold applyG at *
    rw [List.foldl_cons]
    refine ih (fun q hq => hG q (List.mem_cons_of_mem _ hq)) _ (fun x hx => ?_)
    rcases List.mem_or_eq_of_mem_set hx with hx | hx
    · exact h x hx
    · rw [hx]; exact (hG q List.mem_cons_self).2

theorem nDigits_le4 {u : Nat} (h : u < 10000) : nDigits u ≤ 4 := by
  by_cases h1 : u < 10
  · rw [nDigits_small h1]; omega
  rw [nDigits_big h1]
  by_cases h2 : u / 10 < 10
  · rw [nDigits_small h2]; omega
  rw [nDigits_big h2]
  by_cases h3 : u / 10 / 10 < 10
  · rw [nDigits_small h3]; omega
  rw [nDigits_big h3, nDigits_small (by omega)]
  decide
theorem dec_len4 {u : Nat} (h : u < 10000) : (decDigits u).length ≤ 4 := by rw [decDigits_length]; exact nDigits_le4 h
theorem wsum_lt (l : List UInt8) : wsum l < 9973 := Nat.mod_lt _ (by decide)
theorem lineOf_len (l : List UInt8) : (lineOf l).length ≤ l.length + 5 := by
  unfold lineOf
  have := dec_len4 (u := wsum l) (by have := wsum_lt l; omega)
  simp only [List.length_append, List.length_cons]
  omega
theorem wW_len {p v : Nat} (hp : p < 8) (hv : v ≤ 1000) : (wW p v).length ≤ 11 := by
  have h1 := dec_len4 (u := p) (by omega)
  have h2 := dec_len4 (u := v) (by omega)
  simp only [wW, List.length_cons, List.length_append]
  omega

theorem text_snoc (T : List (List UInt8)) (l : List UInt8) : ((T ++ [l]).map (· ++ [10])).flatten = (T.map (· ++ [10])).flatten ++ (l ++ [10]) := by simp
theorem Bk.put_text (b : Bk) (p v : Nat) : (b.put p v).text = b.text ++ (lineOf (wW p v) ++ [10]) := text_snoc _ _
theorem Bk.close_text (b : Bk) : b.close.text = b.text ++ (lineOf wD ++ [10]) := text_snoc _ _

theorem dec_feed (u : Nat) (c : UInt8) (hc : c.toNat < 48) : c ∉ decDigits u := fun h => by
  have := dec_digit c h
  omega
theorem lineOf_feed {l : List UInt8} {c : UInt8} (hc : c.toNat < 48) (h32 : c ≠ 32) (h : c ∉ l) : c ∉ lineOf l := by
  unfold lineOf
  simp only [List.mem_append, List.mem_cons]
  rintro (h1 | h1 | h1)
  · exact h h1
  · exact h32 h1
  · exact dec_feed _ c hc h1
theorem wW_feed (p v : Nat) : (10 : UInt8) ∉ wW p v := by
  unfold wW
  simp only [List.mem_append, List.mem_cons]
  rintro (h1 | h1 | h1 | h1 | h1)
  · exact absurd h1 (by decide)
  · exact absurd h1 (by decide)
  · exact dec_feed _ 10 (by decide) h1
  · exact absurd h1 (by decide)
  · exact dec_feed _ 10 (by decide) h1
theorem Bk.new_ok : Bk.new.ok := ⟨rfl, by simp [Bk.new], by simp [Bk.new], by simp [Bk.new], by simp [Bk.new], by simp [Bk.new], by simp [Bk.new]⟩
theorem flat_le (L : List (List UInt8)) (k : Nat) (h : ∀ l ∈ L, l.length ≤ k) : ((L.map (· ++ [10])).flatten).length ≤ L.length * (k + 1) := by
  induction L with
  | nil => simp
  | cons l L ih =>
    have h1 := h l List.mem_cons_self
    have h2 := ih (fun x hx => h x (List.mem_cons_of_mem _ hx))
    simp only [List.map_cons, List.flatten_cons, List.length_append, List.length_cons, List.length_nil] at h2 ⊢
    rw [Nat.add_mul]
    omega
theorem Bk.text_le {b : Bk} (h : b.ok) : b.text.length ≤ 2460 := by
  have h1 := flat_le b.T 40 (fun l hl => Nat.le_trans (h.short l hl) (by decide))
  have h2 := Nat.mul_le_mul_right 41 h.many
  unfold Bk.text
  omega
theorem Bk.text_small {b : Bk} (h : b.ok) : b.text.length ≤ 1020 := by
  have h1 := flat_le b.T 16 h.short
  have h2 := Nat.mul_le_mul_right 17 h.many
  unfold Bk.text
  omega
theorem Bk.ok.put {b : Bk} (h : b.ok) {p v : Nat} (hp : p < 8) (hv : v ≤ 1000) (hm : b.T.length < 60) : (b.put p v).ok := by
  refine ⟨h.len, h.vals, fun q hq => ?_, ?_, ?_, fun l hl => ?_, fun l hl => ?_⟩
  rotate_right
  · rcases List.mem_append.1 hl with hl | hl
    · exact h.feed l hl
    · rw [List.mem_singleton.1 hl]
      exact lineOf_feed (by decide) (by decide) (wW_feed p v)
  · rcases List.mem_append.1 hq with hq | hq
    · exact h.grp q hq
    · simp only [List.mem_singleton] at hq
      rw [hq]
      exact ⟨hp, hv⟩
  · simp [Bk.put]; omega
  · have := h.waits; simp [Bk.put]; omega
  · rcases List.mem_append.1 hl with hl | hl
    · exact h.short l hl
    · simp only [List.mem_singleton] at hl
      have := lineOf_len (wW p v)
      have := wW_len hp hv
      rw [hl]
      omega
theorem Bk.ok.close {b : Bk} (h : b.ok) (hm : b.T.length < 60) : b.close.ok := by
  refine ⟨by rw [Bk.close, applyG_length]; exact h.len, applyG_vals _ h.grp _ h.vals, by simp [Bk.close], ?_, by simp [Bk.close], fun l hl => ?_, fun l hl => ?_⟩
  rotate_right
  · rcases List.mem_append.1 hl with hl | hl
    · exact h.feed l hl
    · rw [List.mem_singleton.1 hl]
      exact lineOf_feed (by decide) (by decide) (by decide)
  · simp [Bk.close]; omega
  · rcases List.mem_append.1 hl with hl | hl
    · exact h.short l hl
    · simp only [List.mem_singleton] at hl
      have := lineOf_len wD
      rw [hl]
      simp [wD] at *
      omega
theorem Bk.ok.write {b : Bk} (h : b.ok) (p v : Int) : (b.write p v).ok := by
  unfold Bk.write Bk.writeE
  by_cases h1 : okW p v
  · rw [if_pos h1]
    by_cases h2 : b.T.length = 60
    · rw [if_pos h2, if_neg (by decide)]; exact h
    · rw [if_neg h2, if_pos rfl]
      obtain ⟨a1, a2, a3, a4⟩ := h1
      exact h.put (by omega) (by omega) (by have := h.many; omega)
  · rw [if_neg h1, if_neg (by decide)]; exact h
theorem Bk.ok.done {b : Bk} (h : b.ok) : b.done.ok := by
  unfold Bk.done
  by_cases h2 : b.T.length = 60
  · rw [if_pos h2]; exact h
  · rw [if_neg h2]; exact h.close (by have := h.many; omega)
theorem Bk.ok.cmd {b : Bk} (h : b.ok) (c : Cmd) : (b.cmd c).ok := by
  cases c with
  | w p v => exact h.write _ _
  | d => exact h.done
  | bad e => exact h
theorem Bk.ok.lines {b : Bk} (h : b.ok) (L : List (List UInt8)) : (b.lines L).1.ok := by
  induction L generalizing b with
  | nil => exact h
  | cons l r ih =>
    unfold Bk.lines
    split
    · exact ih (h.cmd _)
    · exact h
theorem Bk.ok.whole {b : Bk} (h : b.ok) : b.whole.ok :=
  ⟨h.len, h.vals, by simp [Bk.whole], by have := h.many; simp [Bk.whole]; omega, by simp [Bk.whole], fun l hl => h.short l (List.mem_of_mem_take hl), fun l hl => h.feed l (List.mem_of_mem_take hl)⟩

end Go.Proofs.YtegibgflhhdddaaGreatDoor
