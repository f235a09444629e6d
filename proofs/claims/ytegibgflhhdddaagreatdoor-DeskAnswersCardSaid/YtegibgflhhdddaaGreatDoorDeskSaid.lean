/- What the laws say of sessions, in plain Lean: what is done outlives a crash. -/
import Derived.Test.YtegibgflhhdddaaGreatDoorDeskMath
namespace Go.Proofs.YtegibgflhhdddaaGreatDoor
open Go Go.Lib

def lWrite (p v : Nat) : List UInt8 := [119, 114, 105, 116, 101, 32] ++ (decDigits p ++ 32 :: decDigits v)
def lRead (p : Nat) : List UInt8 := [114, 101, 97, 100, 32] ++ decDigits p
def lDo : List UInt8 := [100, 111]
def lCrash : List UInt8 := [99, 114, 97, 115, 104, 32, 57, 57, 57, 57, 57, 57, 57]
def lWaits : List UInt8 := [119, 97, 105, 116, 115]

theorem small_dec {n : Nat} (h : n < 10000) : small (decDigits n) = some n := by
  have := dec_len4 h
  unfold small
  rw [numOf_dec (by omega)]
  simp only
  rw [if_pos (by omega)]
theorem req_write {p v : Nat} (hp : p < 10000) (hv : v < 10000) : req (lWrite p v) = .write p v := by
  have h1 : cutAt 32 (lWrite p v) = [[119, 114, 105, 116, 101], decDigits p, decDigits v] := by
    have e : lWrite p v = [119, 114, 105, 116, 101] ++ 32 :: (decDigits p ++ 32 :: decDigits v) := rfl
    rw [e, cutAt_append (by decide), cutAt_append (dec_feed32 p), cutAt_skip (dec_feed32 v)]
  unfold req
  rw [h1]
  simp only [List.tail_cons, smalls, small_dec hp, small_dec hv]
  rfl
theorem req_read {p : Nat} (hp : p < 10000) : req (lRead p) = .read p := by
  have h1 : cutAt 32 (lRead p) = [[114, 101, 97, 100], decDigits p] := by
    have e : lRead p = [114, 101, 97, 100] ++ 32 :: decDigits p := rfl
    rw [e, cutAt_append (by decide), cutAt_skip (dec_feed32 p)]
  unfold req
  rw [h1]
  simp only [List.tail_cons, smalls, small_dec hp]
  rfl
theorem req_do : req lDo = .dos := by
  unfold req
  rw [cutAt_skip (by decide)]
  rfl
theorem req_waits : req lWaits = .waits := by
  unfold req
  rw [cutAt_skip (by decide)]
  rfl
theorem req_crash : req lCrash = .crash 9999999 := by
  have h0 : decDigits 9999999 = [57, 57, 57, 57, 57, 57, 57] := by
    simp [decDigits_big, decDigits_one]
  have h1 : cutAt 32 lCrash = [[99, 114, 97, 115, 104], [57, 57, 57, 57, 57, 57, 57]] := by
    have e : lCrash = [99, 114, 97, 115, 104] ++ 32 :: [57, 57, 57, 57, 57, 57, 57] := rfl
    rw [e, cutAt_append (by decide), cutAt_skip (by decide)]
  have h2 : small [57, 57, 57, 57, 57, 57, 57] = some 9999999 := by
    have h3 : numOf [57, 57, 57, 57, 57, 57, 57] = some 9999999 := numOf_some.2 ⟨h0, by decide⟩
    unfold small
    rw [h3]
    rfl
  unfold req
  rw [h1]
  simp only [List.tail_cons, smalls, h2]
  rfl

theorem lWrite_feed (p v : Nat) : (10 : UInt8) ∉ lWrite p v := by
  unfold lWrite
  simp only [List.mem_append, List.mem_cons, not_or]
  refine ⟨by decide, dec_feed _ 10 (by decide), by decide, dec_feed _ 10 (by decide)⟩
theorem lRead_feed (p : Nat) : (10 : UInt8) ∉ lRead p := by
  unfold lRead
  simp only [List.mem_append, not_or]
  exact ⟨by decide, dec_feed _ 10 (by decide)⟩

/-- a text that is none, or ends a line -/
def Whole (p : List UInt8) : Prop := p = [] ∨ ∃ r, p = r ++ [10]
theorem Whole.line {p : List UInt8} (h : Whole p) (l : List UInt8) : Whole (p ++ (l ++ [10])) := .inr ⟨p ++ l, by simp⟩
theorem whole_more {t l : List UInt8} (ht : Whole t) (hl : (10 : UInt8) ∉ l) : wholeLines (t ++ (l ++ [10])) = wholeLines t ++ [l] := by
  obtain ⟨h1, -⟩ := wholeLines_app (s := l ++ [10]) t (tail_end ht)
  rw [h1, (wholeLines_at (b := []) hl).1]
  rfl

/-- the book behind whole lines -/
def bookOf (t : List UInt8) : Bk := sessB Bk.new (wholeLines t)
theorem bookOf_reach (t : List UInt8) : Reach (bookOf t) := Reach.new.sess _
theorem bookOf_more {t l : List UInt8} (ht : Whole t) (hl : (10 : UInt8) ∉ l) : bookOf (t ++ (l ++ [10])) = (bookOf t).ansB (req l) := by
  unfold bookOf
  rw [whole_more ht hl, sessB_append]
  rfl
/-- the last answer -/
theorem run_last {t l : List UInt8} (ht : Whole t) (hl : (10 : UInt8) ∉ l) (hz : (t ++ (l ++ [10])).length ≤ 3000) : ∃ p, Whole p ∧ runT (t ++ (l ++ [10])) = p ++ ((bookOf t).ansT (req l) ++ [10]) := by
  refine ⟨sessT Bk.new (wholeLines t), sessT_ends _ _, ?_⟩
  unfold runT
  rw [if_neg (by omega), deskLines_end (tail_end (ht.line l)), whole_more ht hl, sessT_snoc]
  rfl

theorem write_B (b : Bk) (p v : Int) : (b.write p v).B = b.B := by
  unfold Bk.write
  split <;> rfl
theorem crash_same {b : Bk} (h : Reach b) : b.ansB (.crash 9999999) = b.whole := by
  have h1 : b.text.take 9999999 = b.text := List.take_of_length_le (by have := Bk.text_small h.good.1; omega)
  show (openB (b.text.take 9999999)).getD b = b.whole
  rw [h1, (open_told h.good).1]
  rfl

theorem applyG_last (B : List Nat) (G : List (Nat × Nat)) (p v : Nat) (h : p < B.length) : (applyG B (G ++ [(p, v)])).getD p 0 = v := by
  have h1 : p < (applyG B G).length := by rw [applyG_length]; exact h
  unfold applyG at h1 ⊢
  rw [List.foldl_append]
  simp [h1]

/-- what is written and done is read behind a crash -/
theorem keeps {b : Bk} (h : Reach b) {p v : Nat} (hp : p < 8) (hE : b.writeE p v = 0) (hD : (b.write p v).doneE = 0) :
    (((b.write p v).done).ansB (.crash 9999999)).B.getD p 0 = v := by
  have h1 : Reach (b.write p v).done := (h.write _ _).done
  rw [crash_same h1]
  show (b.write p v).done.B.getD p 0 = v
  have h60 : ¬ (b.write p v).T.length = 60 := fun h60 => by
    unfold Bk.doneE at hD
    rw [if_pos h60] at hD
    cases hD
  have e : b.write p v = b.put p v := by
    unfold Bk.write
    rw [if_pos hE]
    rfl
  unfold Bk.done
  rw [if_neg h60, e]
  show (applyG b.B (b.G ++ [(p, v)])).getD p 0 = v
  exact applyG_last _ _ _ _ (by rw [h.good.1.len]; exact hp)

end Go.Proofs.YtegibgflhhdddaaGreatDoor
