/- The walk of DeskKeeps. -/
import Derived.Test.YtfofepmkjjeldaaGreatDoorRun3
namespace Go.Proofs.YtfofepmkjjeldaaGreatDoor
open Go.RowKit

theorem lawin_yes (k lo hi : Int) (w : World) (h : lo ≤ k ∧ k ≤ hi) :
    Calls Tryz.prog 21 #[.int .i64 k, .int .i64 lo, .int .i64 hi] w fun e w' => e = .returned (.bool true) ∧ w = w' := by
  have q1 : decide (lo ≤ k) = true := decide_eq_true h.1
  have q2 : decide (k ≤ hi) = true := decide_eq_true h.2
  go_enter Tryz.func21, Tryz.ntmps21
  go_wp2_with fail
  go_ret
  exact ⟨rfl, rfl⟩
theorem lawin_no (k lo hi : Int) (w : World) (h : ¬ (lo ≤ k ∧ k ≤ hi)) :
    Calls Tryz.prog 21 #[.int .i64 k, .int .i64 lo, .int .i64 hi] w fun e w' => e = .returned (.bool false) ∧ w = w' := by
  by_cases h1 : lo ≤ k
  · have q1 : decide (lo ≤ k) = true := decide_eq_true h1
    have q2 : decide (k ≤ hi) = false := decide_eq_false (fun h2 => h ⟨h1, h2⟩)
    go_enter Tryz.func21, Tryz.ntmps21
    go_wp2_with fail
    go_ret
    exact ⟨rfl, rfl⟩
  · have q1 : decide (lo ≤ k) = false := decide_eq_false h1
    go_enter Tryz.func21, Tryz.ntmps21
    go_wp2_with fail
    go_ret
    exact ⟨rfl, rfl⟩

theorem whole_text {s : ByteArray} (h : s.size = 0 ∨ ∃ h : s.size - 1 < s.size, s[s.size - 1] = 10) : Whole s.data.toList := by
  have hl : s.data.toList.length = s.size := rfl
  rcases h with h | ⟨h1, h2⟩
  · left
    exact List.length_eq_zero_iff.1 (by omega)
  · right
    have h3 : s[s.size - 1] = s.data.toList[s.size - 1]'(by omega) := rfl
    rw [h3] at h2
    refine ⟨s.data.toList.dropLast, ?_⟩
    have h4 : s.data.toList ≠ [] := fun e => by rw [e] at hl; simp at hl; omega
    have h5 := List.dropLast_concat_getLast h4
    rw [List.getLast_eq_getElem] at h5
    simp only [hl] at h5
    rw [h2] at h5
    exact h5.symm

/-- a session and the last answer, in one contract -/
theorem lastRun (x : ByteArray) (w : World) (B : Nat) (hB : B ≤ w.heap.size) (he : Env B w) (hh : Hand B w) {t l : List UInt8} (ht : Whole t) (hl : (10 : UInt8) ∉ l) (hx : x.data.toList = t ++ (l ++ [10])) (hs : x.size ≤ 3000) :
    Calls Tryz.prog 19 #[.string x] w fun e w' => (∃ y : ByteArray, e = .returned (.string y) ∧ y.size ≤ 10000000 ∧ ∃ p, Whole p ∧ y.data.toList = p ++ ((bookOf t).ansT (req l) ++ [10])) ∧ Below w.heap.size w w' := by
  have hxl : x.data.toList.length = x.size := rfl
  refine (run_text x w B hB he hh (by omega)).mono ?_
  rintro e w' ⟨rfl, hb⟩
  rw [hx] at hxl ⊢
  obtain ⟨p, hp, hr⟩ := run_last ht hl (by omega)
  refine ⟨⟨_, rfl, ?_, p, hp, hr⟩, hb⟩
  rw [str_size, runT_small (by omega)]
  have h1 := sessT_len (deskLines (t ++ (l ++ [10]))) Bk.new Reach.new
  have h2 := lines_count (t ++ (l ++ [10]))
  have h3 : (t ++ (l ++ [10])).count 10 ≤ (t ++ (l ++ [10])).length := List.count_le_length
  have h4 : (deskLines (t ++ (l ++ [10]))).length ≤ 3001 := by rw [h2]; split <;> omega
  have h5 := Nat.mul_le_mul_right 101 h4
  omega

end Go.Proofs.YtfofepmkjjeldaaGreatDoor
