/- The desk in plain Lean: what a line asks, what is answered, what a session is. No program in it. -/
import Derived.Test.YtegibgflhhdddaaGreatDoorAtomicMath
namespace Go.Proofs.YtegibgflhhdddaaGreatDoor
open Go Go.Lib

/-- a book that a session can have -/
inductive Reach : Bk → Prop
  | new : Reach Bk.new
  | write {b : Bk} (h : Reach b) (p v : Int) : Reach (b.write p v)
  | done {b : Bk} (h : Reach b) : Reach b.done

theorem Reach.good {b : Bk} (h : Reach b) : b.ok ∧ b.told := by
  induction h with
  | new => exact ⟨Bk.new_ok, Bk.told_new⟩
  | write h p v ih => exact ⟨ih.1.write p v, ih.2.write p v⟩
  | done h ih => exact ⟨ih.1.done, ih.2.done⟩

theorem put_whole {b : Bk} (hw : b.G.length ≤ b.T.length) (p v : Nat) : (b.put p v).whole = b.whole := by
  unfold Bk.whole Bk.put
  congr 1
  simp only [List.length_append, List.length_cons, List.length_nil]
  rw [List.take_append_of_le_length (by omega)]
  congr 1
  omega
theorem Reach.whole {b : Bk} (h : Reach b) : Reach b.whole := by
  induction h with
  | new => exact Reach.new
  | @write b h p v ih =>
    by_cases hE : b.writeE p v = 0
    · have e : b.write p v = b.put p.toNat v.toNat := by unfold Bk.write; rw [if_pos hE]
      rw [e, put_whole h.good.1.waits]
      exact ih
    · rw [write_no hE]
      exact ih
  | @done b h ih =>
    by_cases hE : b.doneE = 0
    · have e : b.done.G = [] := by
        unfold Bk.done
        rw [if_neg (fun h60 => by unfold Bk.doneE at hE; rw [if_pos h60] at hE; cases hE)]
        rfl
      rw [whole_same e]
      exact h.done
    · rw [done_no hE]
      exact ih

theorem Reach.front {b : Bk} (h : Reach b) : ∀ k, k ≤ b.T.length → ∃ c, Reach c ∧ c.T = b.T.take k := by
  induction h with
  | new => intro k hk; exact ⟨Bk.new, Reach.new, by simp [Bk.new]⟩
  | @write b h p v ih =>
    intro k hk
    by_cases hE : b.writeE p v = 0
    · have e : (b.write p v).T = b.T ++ [lineOf (wW p.toNat v.toNat)] := by unfold Bk.write; rw [if_pos hE]; rfl
      by_cases hk' : k ≤ b.T.length
      · obtain ⟨c, h1, h2⟩ := ih k hk'
        exact ⟨c, h1, by rw [e, List.take_append_of_le_length hk', h2]⟩
      · exact ⟨_, h.write p v, by rw [List.take_of_length_le (by rw [e] at hk ⊢; simp at hk ⊢; omega)]⟩
    · rw [write_no hE] at hk ⊢
      exact ih k hk
  | @done b h ih =>
    intro k hk
    by_cases hE : b.T.length = 60
    · have e : b.done = b := by unfold Bk.done; rw [if_pos hE]
      rw [e] at hk ⊢
      exact ih k hk
    · have e : b.done.T = b.T ++ [lineOf wD] := by unfold Bk.done; rw [if_neg hE]; rfl
      by_cases hk' : k ≤ b.T.length
      · obtain ⟨c, h1, h2⟩ := ih k hk'
        exact ⟨c, h1, by rw [e, List.take_append_of_le_length hk', h2]⟩
      · exact ⟨_, h.done, by rw [List.take_of_length_le (by rw [e] at hk ⊢; simp at hk ⊢; omega)]⟩

/-- a beginning of its text, opened -/
theorem Reach.opened {b : Bk} (h : Reach b) (n : Nat) : ∃ c, Reach c ∧ openB (b.text.take n) = some c ∧ openE (b.text.take n) = 0 ∧ openN (b.text.take n) = (b.text.take n).count 10 := by
  obtain ⟨c, hc⟩ := front_is h.good.1 h.good.2 n
  obtain ⟨a, ha, hT⟩ := h.front _ hc.lines
  have hlen : a.T.length = (b.text.take n).count 10 := by rw [hT, List.length_take, Nat.min_eq_left hc.lines]
  obtain ⟨rfl, -⟩ := hc.same a ha.good.2 (by rw [hT]; exact List.take_prefix _ _) hlen
  exact ⟨_, ha.whole, hc.opened, hc.err, hc.many⟩

/-- a number of at most seven digits -/
def small (s : List UInt8) : Option Nat := match numOf s with
  | some n => if s.length ≤ 7 then some n else none
  | none => none
def smalls : List (List UInt8) → Option (List Nat)
  | [] => some []
  | s :: r => match small s with
    | none => none
    | some n => (smalls r).map (n :: ·)

def tell : Nat → List UInt8
  | 0 => [111, 107]
  | 1 => [69, 114, 114, 82, 97, 110, 103, 101]
  | 2 => [69, 114, 114, 83, 121, 110, 116, 97, 120]
  | 3 => [69, 114, 114, 83, 104, 97, 112, 101]
  | 4 => [69, 114, 114, 70, 117, 108, 108]
  | 5 => [69, 114, 114, 78, 111, 110, 101]
  | 6 => [69, 114, 114, 67, 108, 97, 115, 104]
  | 7 => [69, 114, 114, 83, 116, 97, 116, 101]
  | _ => [69, 114, 114, 110, 111]

inductive Req where
  | write (p v : Nat)
  | dos
  | read (p : Nat)
  | waits
  | crash (n : Nat)
  | bad

def reqOf (h : List UInt8) (ns : List Nat) : Req :=
  if h = [119, 114, 105, 116, 101] ∧ ns.length = 2 then .write (ns.getD 0 0) (ns.getD 1 0)
  else if h = [100, 111] ∧ ns.length = 0 then .dos
  else if h = [114, 101, 97, 100] ∧ ns.length = 1 then .read (ns.getD 0 0)
  else if h = [119, 97, 105, 116, 115] ∧ ns.length = 0 then .waits
  else if h = [99, 114, 97, 115, 104] ∧ ns.length = 1 then .crash (ns.getD 0 0)
  else .bad
/-- what a line asks -/
def req (l : List UInt8) : Req := match smalls (cutAt 32 l).tail with
  | none => .bad
  | some ns => reqOf ((cutAt 32 l).headD []) ns

/-- the book behind it -/
def Bk.ansB (b : Bk) : Req → Bk
  | .write p v => b.write p v
  | .dos => b.done
  | .crash n => (openB (b.text.take n)).getD b
  | .read _ => b
  | .waits => b
  | .bad => b
/-- the answer -/
def Bk.ansT (b : Bk) : Req → List UInt8
  | .write p v => tell (b.writeE p v)
  | .dos => if b.doneE = 0 then [100, 105, 100, 32] ++ decDigits b.doneN else tell b.doneE
  | .read p => if 8 ≤ p then tell 1 else decDigits (b.B.getD p 0)
  | .waits => decDigits b.G.length
  | .crash n => [102, 111, 117, 110, 100, 32] ++ decDigits (openN (b.text.take n))
  | .bad => [98, 97, 100]

theorem Reach.ans {b : Bk} (h : Reach b) (q : Req) : Reach (b.ansB q) := by
  cases q with
  | write p v => exact h.write _ _
  | dos => exact h.done
  | read p => exact h
  | waits => exact h
  | crash n =>
    obtain ⟨c, hc, e, -⟩ := h.opened n
    show Reach ((openB (b.text.take n)).getD b)
    rw [e]
    exact hc
  | bad => exact h

/-- a session: the book behind lines, and all answers, each with its line feed -/
def sessB (b : Bk) (L : List (List UInt8)) : Bk := L.foldl (fun b l => b.ansB (req l)) b
def sessT (b : Bk) : List (List UInt8) → List UInt8
  | [] => []
  | l :: r => b.ansT (req l) ++ 10 :: sessT (b.ansB (req l)) r

theorem Reach.sess {b : Bk} (h : Reach b) (L : List (List UInt8)) : Reach (sessB b L) := by
  induction L generalizing b with
  | nil => exact h
  | cons l L ih => exact ih (h.ans (req l))
theorem sessB_append (b : Bk) (L M : List (List UInt8)) : sessB b (L ++ M) = sessB (sessB b L) M := by unfold sessB; rw [List.foldl_append]
theorem sessT_append (L M : List (List UInt8)) : ∀ b : Bk, sessT b (L ++ M) = sessT b L ++ sessT (sessB b L) M := by
  induction L with
  | nil => intro b; rfl
  | cons l L ih =>
    intro b
    simp only [List.cons_append, sessT, ih, List.append_assoc]
    rfl
theorem sessT_snoc (b : Bk) (L : List (List UInt8)) (l : List UInt8) : sessT b (L ++ [l]) = sessT b L ++ ((sessB b L).ansT (req l) ++ [10]) := by
  rw [sessT_append]
  rfl

/-- the lines of a session -/
def deskLines (t : List UInt8) : List (List UInt8) := wholeLines t ++ (if tailLine t = [] then [] else [tailLine t])
def tooLong : List UInt8 := [116, 111, 111, 32, 108, 111, 110, 103, 10]
/-- what Run says -/
def runT (t : List UInt8) : List UInt8 := if 3000 < t.length then tooLong else sessT Bk.new (deskLines t)

theorem deskLines_len (t : List UInt8) : (deskLines t).length = (cutLines t).length := by
  rw [(cutLines_whole t).1]
  unfold deskLines
  simp only [List.length_append, List.length_map]
theorem deskLines_feed (t : List UInt8) : ∀ l ∈ deskLines t, (10 : UInt8) ∉ l := by
  obtain ⟨-, h1, h2⟩ := cutLines_whole t
  intro l hl
  rcases List.mem_append.1 hl with hl | hl
  · exact h1 l hl
  · split at hl
    · cases hl
    · rw [List.mem_singleton.1 hl]
      exact h2
/-- the k-th line, with its feed if it has one -/
theorem cutLines_desk (t : List UInt8) {k : Nat} {l : List UInt8} (h : (deskLines t)[k]? = some l) : (cutLines t).getD k [] = l ++ [10] ∨ (cutLines t).getD k [] = l := by
  by_cases hk : k < (wholeLines t).length
  · unfold deskLines at h
    rw [List.getElem?_append_left hk] at h
    exact .inl (cutLines_full t k l h).1
  · unfold deskLines at h
    rw [List.getElem?_append_right (by omega)] at h
    split at h
    · simp at h
    · rename_i h0
      have hk0 : k - (wholeLines t).length = 0 := by
        have := (List.getElem?_eq_some_iff.1 h).1
        simp at this
        omega
      rw [hk0] at h
      simp only [List.getElem?_cons_zero, Option.some.injEq] at h
      obtain rfl : k = (wholeLines t).length := by omega
      right
      rw [(cutLines_rest t (by rw [(cutLines_whole t).1, if_neg h0]; simp)).1, h]

/-! what is said of sessions -/

theorem tell_feed (e : Nat) : (10 : UInt8) ∉ tell e := by
  unfold tell
  split <;> decide
theorem ansT_feed (b : Bk) (q : Req) : (10 : UInt8) ∉ b.ansT q := by
  have hd : ∀ n, (10 : UInt8) ∉ decDigits n := fun n => dec_feed n 10 (by decide)
  have ha : ∀ (w : List UInt8) n, (10 : UInt8) ∉ w → (10 : UInt8) ∉ w ++ decDigits n := fun w n h hm => by
    rcases List.mem_append.1 hm with hm | hm
    · exact h hm
    · exact hd n hm
  cases q with
  | write p v => exact tell_feed _
  | dos =>
    show (10 : UInt8) ∉ (if b.doneE = 0 then _ else _)
    split
    · exact ha _ _ (by decide)
    · exact tell_feed _
  | read p =>
    show (10 : UInt8) ∉ (if 8 ≤ p then _ else _)
    split
    · exact tell_feed _
    · exact hd _
  | waits => exact hd _
  | crash n => exact ha _ _ (by decide)
  | bad => show (10 : UInt8) ∉ [98, 97, 100]; decide

theorem sessT_count (L : List (List UInt8)) : ∀ b : Bk, (sessT b L).count 10 = L.length := by
  induction L with
  | nil => intro b; rfl
  | cons l L ih =>
    intro b
    unfold sessT
    rw [List.count_append, List.count_cons_self, ih, List.count_eq_zero_of_not_mem (ansT_feed b _), List.length_cons]
    omega
theorem sessT_ends (L : List (List UInt8)) : ∀ b : Bk, sessT b L = [] ∨ ∃ r, sessT b L = r ++ [10] := by
  induction L with
  | nil => intro b; exact .inl rfl
  | cons l L ih =>
    intro b
    right
    unfold sessT
    rcases ih (b.ansB (req l)) with h | ⟨r, h⟩
    · exact ⟨b.ansT (req l), by rw [h]⟩
    · exact ⟨b.ansT (req l) ++ 10 :: r, by rw [h]; simp⟩

/-- a text of whole lines, and what stands behind it -/
def Ended (t : List UInt8) : Prop := tailLine t = []
theorem wholeLines_app {s : List UInt8} : ∀ (t : List UInt8), tailLine t = [] → wholeLines (t ++ s) = wholeLines t ++ wholeLines s ∧ tailLine (t ++ s) = tailLine s := by
  have key : ∀ (n : Nat) (t : List UInt8), t.length ≤ n → tailLine t = [] → wholeLines (t ++ s) = wholeLines t ++ wholeLines s ∧ tailLine (t ++ s) = tailLine s := by
    intro n
    induction n with
    | zero =>
      intro t ht _
      obtain rfl : t = [] := List.length_eq_zero_iff.1 (by omega)
      exact ⟨rfl, rfl⟩
    | succ n ih =>
      intro t ht h0
      by_cases hc : (10 : UInt8) ∈ t
      · obtain ⟨a, b, rfl, ha⟩ := first_cut hc
        obtain ⟨h1, h2⟩ := wholeLines_at (b := b) ha
        obtain ⟨h3, h4⟩ := wholeLines_at (b := b ++ s) ha
        obtain ⟨i1, i2⟩ := ih b (by simp at ht; omega) (by rw [← h2]; exact h0)
        rw [h1, show (a ++ 10 :: b) ++ s = a ++ 10 :: (b ++ s) by simp, h3, h4, i1, i2]
        exact ⟨rfl, rfl⟩
      · obtain ⟨h1, h2⟩ := wholeLines_skip hc
        rw [h2] at h0
        subst h0
        exact ⟨rfl, rfl⟩
  exact fun t h => key _ t (Nat.le_refl _) h
theorem tail_end {t : List UInt8} (h : t = [] ∨ ∃ r, t = r ++ [10]) : tailLine t = [] := by
  have key : ∀ (n : Nat) (r : List UInt8), r.length ≤ n → tailLine (r ++ [10]) = [] := by
    intro n
    induction n with
    | zero =>
      intro r hr
      obtain rfl : r = [] := List.length_eq_zero_iff.1 (by omega)
      rfl
    | succ n ih =>
      intro r hr
      by_cases hc : (10 : UInt8) ∈ r
      · obtain ⟨a, b, rfl, ha⟩ := first_cut hc
        rw [show (a ++ 10 :: b) ++ [10] = a ++ 10 :: (b ++ [10]) by simp, (wholeLines_at ha).2]
        exact ih b (by simp at hr; omega)
      · rw [(wholeLines_at (b := []) hc).2]
        rfl
  rcases h with rfl | ⟨r, rfl⟩
  · rfl
  · exact key _ r (Nat.le_refl _)
theorem deskLines_app {t s : List UInt8} (h : tailLine t = []) : deskLines (t ++ s) = wholeLines t ++ deskLines s := by
  obtain ⟨h1, h2⟩ := wholeLines_app (s := s) t h
  unfold deskLines
  rw [h1, h2, List.append_assoc]
theorem deskLines_end {t : List UInt8} (h : tailLine t = []) : deskLines t = wholeLines t := by
  unfold deskLines
  rw [if_pos h, List.append_nil]
theorem deskLines_one {l : List UInt8} (h : (10 : UInt8) ∉ l) : deskLines (l ++ [10]) = [l] := by
  obtain ⟨h1, h2⟩ := wholeLines_at (b := []) h
  unfold deskLines
  rw [h1, h2]
  rfl
theorem deskLines_line {l s : List UInt8} (h : (10 : UInt8) ∉ l) : deskLines (l ++ 10 :: s) = l :: deskLines s := by
  obtain ⟨h1, h2⟩ := wholeLines_at (b := s) h
  unfold deskLines
  rw [h1, h2]
  rfl

/-- the answers to a beginning are a beginning of the answers -/
theorem run_front {t : List UInt8} {k : Nat} (ht : t.length ≤ 3000) (h : tailLine (t.take k) = []) : runT (t.take k) <+: runT t := by
  have hl : ¬ 3000 < (t.take k).length := by rw [List.length_take]; omega
  unfold runT
  rw [if_neg hl, if_neg (by omega), deskLines_end h]
  have e : deskLines t = wholeLines (t.take k) ++ deskLines (t.drop k) := by
    have h1 := deskLines_app (s := t.drop k) h
    rwa [List.take_append_drop] at h1
  rw [e, sessT_append]
  exact List.prefix_append _ _

/-- the number of lines -/
theorem lines_count (t : List UInt8) : (deskLines t).length = t.count 10 + (if tailLine t = [] then 0 else 1) := by
  obtain ⟨h1, h2, h3⟩ := cutLines_whole t
  have h4 := cutLines_flat t
  rw [h1] at h4
  have h5 : t.count 10 = (wholeLines t).length := by
    have h6 : t.count 10 = ((((wholeLines t).map (· ++ [10])) ++ (if tailLine t = [] then [] else [tailLine t])).flatten).count 10 := by rw [h4]
    rw [h6, List.flatten_append, List.count_append, count_lines 10 _ h2]
    split
    · simp
    · simp only [List.flatten_cons, List.flatten_nil, List.append_nil]
      rw [List.count_eq_zero_of_not_mem h3]
      rfl
  unfold deskLines
  rw [List.length_append, h5]
  split <;> rfl
theorem tail_nil {t : List UInt8} (h : tailLine t = []) : t = [] ∨ ∃ r, t = r ++ [10] := by
  obtain ⟨h1, -, -⟩ := cutLines_whole t
  have h4 := cutLines_flat t
  rw [h1, if_pos h, List.append_nil] at h4
  rcases List.eq_nil_or_concat (wholeLines t) with h5 | ⟨L, l, h5⟩
  · left
    rw [← h4, h5]
    rfl
  · right
    refine ⟨(L.map (· ++ [10])).flatten ++ l, ?_⟩
    rw [← h4, h5]
    simp

end Go.Proofs.YtegibgflhhdddaaGreatDoor
