/- A line of a book in which one byte is another one, in plain Lean. -/
import Derived.Test.YtegibgflhhdddaaGreatDoorReplay
namespace Go.Proofs.YtegibgflhhdddaaGreatDoor
open Go Go.Lib

theorem sumFrom_set (l : List UInt8) (c d : UInt8) : ∀ (k j : Nat), l[j]? = some d → sumFrom k (l.set j c) + (k + j + 1) * d.toNat = sumFrom k l + (k + j + 1) * c.toNat := by
  induction l with
  | nil => intro k j h; simp at h
  | cons x r ih =>
    intro k j h
    cases j with
    | zero =>
      simp only [List.getElem?_cons_zero, Option.some.injEq] at h
      subst h
      simp only [List.set_cons_zero, sumFrom, Nat.add_zero]
      omega
    | succ j =>
      simp only [List.getElem?_cons_succ] at h
      have := ih (k + 1) j h
      simp only [List.set_cons_succ, sumFrom]
      rw [show k + 1 + j + 1 = k + (j + 1) + 1 by omega] at this
      omega
theorem sumFrom_dig (l : List UInt8) (h : ∀ c ∈ l, c.toNat ≤ 57) : ∀ k, sumFrom k l ≤ l.length * ((k + l.length) * 57) := by
  induction l with
  | nil => intro k; simp [sumFrom]
  | cons c r ih =>
    intro k
    have h1 := ih (fun x hx => h x (List.mem_cons_of_mem _ hx)) (k + 1)
    have h2 := h c List.mem_cons_self
    have h3 : (k + 1) * c.toNat ≤ (k + (r.length + 1)) * 57 := Nat.mul_le_mul (by omega) h2
    simp only [sumFrom, List.length_cons]
    rw [show k + 1 + r.length = k + (r.length + 1) by omega] at h1
    rw [Nat.add_mul (r.length) 1, Nat.one_mul]
    generalize r.length * ((k + (r.length + 1)) * 57) = A at h1 ⊢
    generalize (k + (r.length + 1)) * 57 = C at h3 ⊢
    generalize (k + 1) * c.toNat = D at h3 ⊢
    omega

theorem dec_len_ge3 {u : Nat} (h : 100 ≤ u) : 3 ≤ (decDigits u).length := by
  rw [decDigits_big (by omega), decDigits_big (u := u / 10) (by omega)]
  have := dec_ne_nil (u / 10 / 10)
  have := List.length_pos_iff.2 this
  simp only [List.length_append, List.length_cons, List.length_nil]
  omega
theorem dec_len_pos (u : Nat) : 1 ≤ (decDigits u).length := List.length_pos_iff.2 (dec_ne_nil u)

theorem valOf_append_ge (a b : List UInt8) : valOf b ≤ valOf (a ++ b) := by
  have hmono : ∀ (l : List UInt8) (m n : Nat), m ≤ n → l.foldl (fun a c => a * 10 + (c.toNat - 48)) m ≤ l.foldl (fun a c => a * 10 + (c.toNat - 48)) n := by
    intro l
    induction l with
    | nil => intro m n h; exact h
    | cons x l ih => intro m n h; exact ih _ _ (by dsimp only; omega)
  unfold valOf
  rw [List.foldl_append]
  exact hmono b _ _ (Nat.zero_le _)

/-- what is known of a word -/
structure WordOk (w : List UInt8) : Prop where
  len : w.length ≤ 8
  lo : 100 ≤ sumFrom 0 w
  hi : sumFrom 0 w ≤ 2306
theorem WordOk.wsum {w : List UInt8} (h : WordOk w) : wsum w = sumFrom 0 w := Nat.mod_eq_of_lt (by have := h.hi; omega)

theorem wD_ok : WordOk wD := ⟨by decide, by decide, by decide⟩
theorem wW_ok {p v : Nat} (hp : p < 8) (hv : v ≤ 1000) : WordOk (wW p v) := by
  have hl := dec_len4 (u := v) (by omega)
  have e : wW p v = [119, 32, UInt8.ofNat (48 + p), 32] ++ decDigits v := by
    unfold wW
    rw [decDigits_one (by omega : p < 10)]
    rfl
  have hd := sumFrom_dig (decDigits v) (fun c hc => (dec_digit c hc).2) 4
  have hm : (decDigits v).length * ((4 + (decDigits v).length) * 57) ≤ 4 * (8 * 57) := Nat.mul_le_mul hl (Nat.mul_le_mul_right _ (by omega))
  have hs : sumFrom 0 (wW p v) = 119 + 64 + 3 * (48 + p) + 128 + sumFrom 4 (decDigits v) := by
    rw [e, sumFrom_append]
    simp only [sumFrom, List.length_cons, List.length_nil, digit_val p (by omega)]
    simp
    omega
  refine ⟨by rw [e]; simp; omega, by omega, by omega⟩

/-- another byte in the word -/
theorem turn_word {w : List UInt8} (h : WordOk w) {j : Nat} {c d : UInt8} (hd : w[j]? = some d) (hc : c ≠ d) : parse ((lineOf w).set j c) = .bad 6 := by
  have hj : j < w.length := (List.getElem?_eq_some_iff.1 hd).1
  have e : (lineOf w).set j c = (w.set j c) ++ 32 :: decDigits (wsum w) := by
    unfold lineOf
    rw [List.set_append_left _ _ hj]
  have h1 : lastCut 32 (w.set j c ++ 32 :: decDigits (wsum w)) = some (w.set j c, decDigits (wsum w)) := lastCut_some.2 ⟨rfl, dec_feed32 _⟩
  have h2 : numOf (decDigits (wsum w)) = some (wsum w) := numOf_dec (by have := wsum_lt w; omega)
  have h3 := sumFrom_set w c d 0 j hd
  have hcd : c.toNat ≠ d.toNat := fun e => hc (UInt8.toNat_inj.1 e)
  have hc2 := c.toNat_lt
  have hd2 := d.toNat_lt
  have h4 : (0 + j + 1) * c.toNat ≤ 8 * 255 := Nat.mul_le_mul (by have := h.len; omega) (by omega)
  have h5 : wsum w ≠ wsum (w.set j c) := by
    rw [h.wsum]
    unfold Go.Proofs.YtegibgflhhdddaaGreatDoor.wsum
    rw [Nat.mod_eq_of_lt (by have := h.hi; omega)]
    intro e2
    rw [← e2] at h3
    have h6 : (0 + j + 1) * d.toNat = (0 + j + 1) * c.toNat := by omega
    exact hcd (Nat.eq_of_mul_eq_mul_left (by omega) h6).symm
  rw [e]
  simp only [parse, h1, h2]
  rw [if_neg h5]

/-- another byte in the number -/
theorem turn_num {w : List UInt8} (h : WordOk w) {i : Nat} {c d : UInt8} (hd : (decDigits (wsum w))[i]? = some d) (hc : c ≠ d) : parse (w ++ 32 :: (decDigits (wsum w)).set i c) = .bad 2 ∨ parse (w ++ 32 :: (decDigits (wsum w)).set i c) = .bad 6 := by
  have hi : i < (decDigits (wsum w)).length := (List.getElem?_eq_some_iff.1 hd).1
  by_cases h32 : c = 32
  · subst h32
    have e : (decDigits (wsum w)).set i 32 = (decDigits (wsum w)).take i ++ 32 :: (decDigits (wsum w)).drop (i + 1) := by
      rw [List.set_eq_take_append_cons_drop, if_pos hi]
    have h1 : lastCut 32 (w ++ 32 :: (decDigits (wsum w)).set i 32) = some (w ++ 32 :: (decDigits (wsum w)).take i, (decDigits (wsum w)).drop (i + 1)) := by
      refine lastCut_some.2 ⟨by rw [e]; simp, fun hm => dec_feed32 _ (List.mem_of_mem_drop hm)⟩
    cases hn : numOf ((decDigits (wsum w)).drop (i + 1)) with
    | none => left; simp only [parse, h1, hn]
    | some n =>
      right
      obtain ⟨e1, -⟩ := numOf_some.1 hn
      have hle : n ≤ wsum w := by
        have h2 := valOf_append_ge ((decDigits (wsum w)).take (i + 1)) ((decDigits (wsum w)).drop (i + 1))
        rw [List.take_append_drop, valOf_dec, ← e1, valOf_dec] at h2
        exact h2
      have hl4 := dec_len4 (u := wsum w) (by have := wsum_lt w; omega)
      have hsum : sumFrom 0 (w ++ 32 :: (decDigits (wsum w)).take i) = sumFrom 0 w + ((w.length + 1) * 32 + sumFrom (w.length + 1) ((decDigits (wsum w)).take i)) := by
        rw [sumFrom_append]
        simp [sumFrom]
      have hdg := sumFrom_dig ((decDigits (wsum w)).take i) (fun c hc => (dec_digit c (List.mem_of_mem_take hc)).2) (w.length + 1)
      have hlt : ((decDigits (wsum w)).take i).length ≤ 3 := by rw [List.length_take]; omega
      have hlen := h.len
      have hm : ((decDigits (wsum w)).take i).length * ((w.length + 1 + ((decDigits (wsum w)).take i).length) * 57) ≤ 3 * (12 * 57) := Nat.mul_le_mul hlt (Nat.mul_le_mul_right _ (by omega))
      have hhi := h.hi
      have hne : n ≠ wsum (w ++ 32 :: (decDigits (wsum w)).take i) := by
        have e2 : wsum (w ++ 32 :: (decDigits (wsum w)).take i) = sumFrom 0 (w ++ 32 :: (decDigits (wsum w)).take i) := Nat.mod_eq_of_lt (by omega)
        rw [e2, hsum]
        have := h.wsum
        omega
      simp only [parse, h1, hn]
      rw [if_neg hne]
  · have hf : (32 : UInt8) ∉ (decDigits (wsum w)).set i c := fun hm => by
      rcases List.mem_or_eq_of_mem_set hm with hm | hm
      · exact dec_feed32 _ hm
      · exact h32 hm.symm
    have h1 : lastCut 32 (w ++ 32 :: (decDigits (wsum w)).set i c) = some (w, (decDigits (wsum w)).set i c) := lastCut_some.2 ⟨rfl, hf⟩
    cases hn : numOf ((decDigits (wsum w)).set i c) with
    | none => left; simp only [parse, h1, hn]
    | some n =>
      right
      obtain ⟨e1, -⟩ := numOf_some.1 hn
      have hne : n ≠ wsum w := fun e2 => by
        rw [e2] at e1
        have := congrArg (fun l : List UInt8 => l[i]?) e1
        simp only [hd, List.getElem?_set_self hi, Option.some.injEq] at this
        exact hc this.symm
      simp only [parse, h1, hn]
      rw [if_neg hne]

/-- the last blank -/
theorem turn_blank_w {p v : Nat} (hp : p < 8) (hv : v ≤ 1000) {c : UInt8} (hc : c ≠ 32) : parse (wW p v ++ c :: decDigits (wsum (wW p v))) = .bad 2 ∨ parse (wW p v ++ c :: decDigits (wsum (wW p v))) = .bad 6 := by
  have hw := wW_ok hp hv
  obtain ⟨q, hq⟩ : ∃ q, q = decDigits (wsum (wW p v)) := ⟨_, rfl⟩
  have hq3 : 3 ≤ q.length := by rw [hq, hw.wsum]; exact dec_len_ge3 hw.lo
  have hqf : (32 : UInt8) ∉ q := by rw [hq]; exact dec_feed32 _
  rw [← hq]
  have e : wW p v ++ c :: q = (119 :: 32 :: decDigits p) ++ 32 :: (decDigits v ++ c :: q) := by simp [wW]
  have hf : (32 : UInt8) ∉ decDigits v ++ c :: q := by
    simp only [List.mem_append, List.mem_cons, not_or]
    exact ⟨dec_feed32 v, fun e => hc e.symm, hqf⟩
  have h1 : lastCut 32 (wW p v ++ c :: q) = some (119 :: 32 :: decDigits p, decDigits v ++ c :: q) := lastCut_some.2 ⟨e, hf⟩
  cases hn : numOf (decDigits v ++ c :: q) with
  | none => left; simp only [parse, h1, hn]
  | some n =>
    right
    obtain ⟨e1, -⟩ := numOf_some.1 hn
    have hne : n ≠ wsum (119 :: 32 :: decDigits p) := fun e2 => by
      have h4 := dec_len4 (u := n) (by have := wsum_lt (119 :: 32 :: decDigits p); omega)
      have h5 := dec_len_pos v
      rw [e1] at h4
      simp only [List.length_append, List.length_cons] at h4
      omega
    simp only [parse, h1, hn]
    rw [if_neg hne]
theorem turn_blank_d {c : UInt8} (hc : c ≠ 32) : parse (wD ++ c :: decDigits (wsum wD)) = .bad 2 := by
  have h1 : lastCut 32 (wD ++ c :: decDigits (wsum wD)) = none := by
    refine lastCut_none.2 ?_
    simp only [List.mem_append, List.mem_cons, not_or]
    exact ⟨by decide, fun e => hc e.symm, dec_feed32 _⟩
  simp only [parse, h1]

/-- a line of a book -/
def LineOk (l : List UInt8) : Prop := (∃ p v, p < 8 ∧ v ≤ 1000 ∧ l = lineOf (wW p v)) ∨ l = lineOf wD

theorem turn_line {w : List UInt8} (h : WordOk w) (hb : ∀ c : UInt8, c ≠ 32 → parse (w ++ c :: decDigits (wsum w)) = .bad 2 ∨ parse (w ++ c :: decDigits (wsum w)) = .bad 6) {j : Nat} {c d : UInt8} (hd : (lineOf w)[j]? = some d) (hc : c ≠ d) : parse ((lineOf w).set j c) = .bad 2 ∨ parse ((lineOf w).set j c) = .bad 6 := by
  by_cases h1 : j < w.length
  · right
    refine turn_word h ?_ hc
    rw [← hd]
    unfold lineOf
    rw [List.getElem?_append_left h1]
  · obtain ⟨i, rfl⟩ : ∃ i, j = w.length + i := ⟨j - w.length, by omega⟩
    unfold lineOf at hd ⊢
    rw [List.getElem?_append_right (by omega), Nat.add_sub_cancel_left] at hd
    rw [List.set_append_right _ _ (by omega), Nat.add_sub_cancel_left]
    cases i with
    | zero =>
      simp only [List.getElem?_cons_zero, Option.some.injEq] at hd
      rw [List.set_cons_zero]
      exact hb c (by rw [hd]; exact hc)
    | succ i =>
      rw [List.getElem?_cons_succ] at hd
      rw [List.set_cons_succ]
      exact turn_num h hd hc
theorem LineOk.turn {l : List UInt8} (h : LineOk l) {j : Nat} {c d : UInt8} (hd : l[j]? = some d) (hc : c ≠ d) : parse (l.set j c) = .bad 2 ∨ parse (l.set j c) = .bad 6 := by
  rcases h with ⟨p, v, hp, hv, rfl⟩ | rfl
  · exact turn_line (wW_ok hp hv) (fun c hc => turn_blank_w hp hv hc) hd hc
  · exact turn_line wD_ok (fun c hc => .inl (turn_blank_d hc)) hd hc

/-- all lines of a book are of that form -/
def Bk.lined (b : Bk) : Prop := ∀ l ∈ b.T, LineOk l
theorem Bk.lined_new : Bk.new.lined := by intro l hl; cases hl
theorem Bk.lined.write {b : Bk} (h : b.lined) (p v : Int) : (b.write p v).lined := by
  unfold Bk.write Bk.writeE
  by_cases h1 : okW p v
  · rw [if_pos h1]
    by_cases h2 : b.T.length = 60
    · rw [if_pos h2, if_neg (by decide)]; exact h
    · rw [if_neg h2, if_pos rfl]
      obtain ⟨a1, a2, a3, a4⟩ := h1
      intro l hl
      rcases List.mem_append.1 hl with hl | hl
      · exact h l hl
      · exact .inl ⟨p.toNat, v.toNat, by omega, by omega, List.mem_singleton.1 hl⟩
  · rw [if_neg h1, if_neg (by decide)]; exact h
theorem Bk.lined.done {b : Bk} (h : b.lined) : b.done.lined := by
  unfold Bk.done
  split
  · exact h
  · intro l hl
    rcases List.mem_append.1 hl with hl | hl
    · exact h l hl
    · exact .inr (List.mem_singleton.1 hl)

def flatT (T : List (List UInt8)) : List UInt8 := (T.map (· ++ [10])).flatten
theorem flatT_cons (l : List UInt8) (T : List (List UInt8)) : flatT (l :: T) = l ++ 10 :: flatT T := by simp [flatT]
theorem flatT_append (S T : List (List UInt8)) : flatT (S ++ T) = flatT S ++ flatT T := by simp [flatT]

/-- where a byte of a text lies -/
theorem text_turn : ∀ (T : List (List UInt8)) (i : Nat) (d : UInt8), (∀ l ∈ T, (10 : UInt8) ∉ l) → (flatT T)[i]? = some d → d ≠ 10 →
    ∃ k j l, T[k]? = some l ∧ l[j]? = some d ∧ (flatT T).take i = flatT (T.take k) ++ l.take j ∧ ∀ c, (flatT T).set i c = flatT (T.take k) ++ (l.set j c ++ 10 :: flatT (T.drop (k + 1)))
  | [], i, d, _, hi, _ => by simp [flatT] at hi
  | l :: T, i, d, h, hi, hd => by
    rw [flatT_cons] at hi
    by_cases h1 : i < l.length
    · refine ⟨0, i, l, rfl, ?_, ?_, fun c => ?_⟩
      · rw [List.getElem?_append_left h1] at hi; exact hi
      · rw [flatT_cons, List.take_append_of_le_length (by omega)]; rfl
      · rw [flatT_cons, List.set_append_left _ _ h1]; rfl
    · obtain ⟨q, rfl⟩ : ∃ q, i = l.length + q := ⟨i - l.length, by omega⟩
      rw [List.getElem?_append_right (by omega), Nat.add_sub_cancel_left] at hi
      cases q with
      | zero =>
        simp only [List.getElem?_cons_zero, Option.some.injEq] at hi
        exact absurd hi.symm hd
      | succ q =>
        rw [List.getElem?_cons_succ] at hi
        obtain ⟨k, j, l', e1, e2, e3, e4⟩ := text_turn T q d (fun x hx => h x (List.mem_cons_of_mem _ hx)) hi hd
        refine ⟨k + 1, j, l', e1, e2, ?_, fun c => ?_⟩
        · rw [flatT_cons, List.take_append, List.take_of_length_le (by omega), Nat.add_sub_cancel_left, List.take_succ_cons, e3, List.take_succ_cons, flatT_cons]
          simp
        · rw [flatT_cons, List.set_append_right _ _ (by omega), Nat.add_sub_cancel_left, List.set_cons_succ, e4, List.take_succ_cons, flatT_cons, List.drop_succ_cons]
          simp

theorem count_flat (T : List (List UInt8)) (r : List UInt8) (h : ∀ l ∈ T, (10 : UInt8) ∉ l) (hr : (10 : UInt8) ∉ r) : (flatT T ++ r).count 10 = T.length := by
  unfold flatT
  rw [List.count_append, count_lines 10 T h, List.count_eq_zero_of_not_mem hr]
  rfl

/-- opened it tells in which line -/
theorem open_turn {b : Bk} (hok : b.ok) (ht : b.told) (hl : b.lined) {i : Nat} {c d : UInt8} (hi : b.text[i]? = some d) (hd : d ≠ 10) (hc : c ≠ 10) (hcd : c ≠ d) :
    openB (b.text.set i c) = none ∧ openN (b.text.set i c) = (b.text.take i).count 10 + 1 ∧ (openE (b.text.set i c) = 2 ∨ openE (b.text.set i c) = 6) := by
  obtain ⟨k, j, l, e1, e2, e3, e4⟩ := text_turn b.T i d hok.feed hi hd
  have hlm : l ∈ b.T := List.mem_of_getElem? e1
  have hk : k < b.T.length := (List.getElem?_eq_some_iff.1 e1).1
  have hl' := (hl l hlm).turn e2 hcd
  have hsz : ¬ 2000 < (b.text.set i c).length := by have := Bk.text_small hok; rw [List.length_set]; omega
  have hfl : (10 : UInt8) ∉ l := hok.feed l hlm
  have e5 : b.text.set i c = flatT (b.T.take k ++ l.set j c :: b.T.drop (k + 1)) := by
    rw [flatT_append, flatT_cons]
    exact e4 c
  have hfeed : ∀ x ∈ b.T.take k ++ l.set j c :: b.T.drop (k + 1), (10 : UInt8) ∉ x := by
    intro x hx
    rcases List.mem_append.1 hx with hx | hx
    · exact hok.feed x (List.mem_of_mem_take hx)
    · rcases List.mem_cons.1 hx with rfl | hx
      · intro hm
        rcases List.mem_or_eq_of_mem_set hm with hm | hm
        · exact hfl hm
        · exact hc hm.symm
      · exact hok.feed x (List.mem_of_mem_drop hx)
  have e6 : wholeLines (b.text.set i c) = b.T.take k ++ l.set j c :: b.T.drop (k + 1) := by
    have h3 := (wholeLines_text _ [] hfeed (by simp)).1
    rw [List.append_nil] at h3
    rw [e5]
    exact h3
  have ht' : Bk.new.lines (b.T.take k ++ b.T.drop k) = (b, 0, b.T.length) := by rw [List.take_append_drop]; exact ht
  obtain ⟨x, hx⟩ := Bk.lines_front ht'
  have hlen : (b.T.take k).length = k := by rw [List.length_take]; omega
  have hcount : (b.text.take i).count 10 = k := by
    have e7 : b.text.take i = flatT (b.T.take k) ++ l.take j := e3
    rw [e7, count_flat _ _ (fun y hy => hok.feed y (List.mem_of_mem_take hy)) (fun hm => hfl (List.mem_of_mem_take hm)), hlen]
  have hlines := Bk.lines_snoc hx (l.set j c) (b.T.drop (k + 1))
  have hE : x.cmdE (parse (l.set j c)) = 2 ∨ x.cmdE (parse (l.set j c)) = 6 := by
    rcases hl' with h | h <;> rw [h]
    · exact .inl rfl
    · exact .inr rfl
  have hE0 : ¬ x.cmdE (parse (l.set j c)) = 0 := by omega
  rw [if_neg hE0, hlen] at hlines
  unfold openB openN openE
  rw [if_neg hsz, if_neg hsz, if_neg hsz, e6, hlines, hcount]
  exact ⟨if_neg hE0, rfl, hE⟩

end Go.Proofs.YtegibgflhhdddaaGreatDoor
