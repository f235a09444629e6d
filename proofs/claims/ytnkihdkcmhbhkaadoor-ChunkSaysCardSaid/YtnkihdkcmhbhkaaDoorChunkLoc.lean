/- What stands behind a cut does not hang on what stands ahead of it: plain lists. -/
import Derived.Test.YtnkihdkcmhbhkaaDoorChunkBeg
namespace Go.Proofs.YtnkihdkcmhbhkaaDoor.Chunk

theorem run_bound (t : List UInt8) (i : Nat) : ∀ x ∈ (run t i).2, 1 ≤ x ∧ x ≤ i := by
  induction i with
  | zero => simp [run]
  | succ i ih =>
    intro x hx
    simp only [run] at hx
    split at hx
    · rcases List.mem_append.1 hx with h | h
      · have := ih x h; omega
      · simp at h; omega
    · have := ih x hx; omega

theorem cuts_bound (t : List UInt8) : ∀ x ∈ cuts t, 1 ≤ x ∧ x ≤ t.length := run_bound t t.length

theorem sumB_shift (a e : List UInt8) (lo hi : Nat) : sumB (a ++ e) (a.length + lo) (a.length + hi) = sumB e lo hi := by
  unfold sumB
  rw [List.take_length_add_append, List.drop_length_add_append]

theorem cutAt_shift (a e : List UInt8) {f j : Nat} : cutAt (a ++ e) (a.length + f) (a.length + j) = cutAt e f j := by
  unfold cutAt
  rw [show max (a.length + f) (a.length + j - 3) = a.length + max f (j - 3) from by omega, show a.length + j + 1 = a.length + (j + 1) from by omega, sumB_shift,
    show a.length + (j + 1) - (a.length + f) = j + 1 - f from by omega]
  congr 1
  rw [List.length_append, Bool.eq_iff_iff]
  simp

theorem run_shift (a e : List UInt8) (h : (run (a ++ e) a.length).1 = a.length) (j : Nat) :
    run (a ++ e) (a.length + j) = (a.length + (run e j).1, (run (a ++ e) a.length).2 ++ (run e j).2.map (a.length + ·)) := by
  induction j with
  | zero => simp [run]; exact Prod.ext h rfl
  | succ j ih =>
    rw [← Nat.add_assoc]
    simp only [run]
    rw [ih]
    simp only []
    rw [cutAt_shift]
    split
    · simp; omega
    · rfl

theorem run_mem_last {t : List UInt8} {i x : Nat} (hx : x ∈ (run t i).2) (h0 : 0 < x) : (run t x).1 = x := by
  induction i with
  | zero => simp [run] at hx
  | succ i ih =>
    simp only [run] at hx
    split at hx
    · rename_i hc
      rcases List.mem_append.1 hx with h | h
      · exact ih h
      · simp at h; subst h; rw [run_yes hc]
    · exact ih hx

/-- of a text a ++ e, cut behind a: the cuts in e -/
theorem cuts_shift (a e : List UInt8) (h : a.length = 0 ∨ a.length ∈ cuts (a ++ e)) : ∃ pre, (∀ x ∈ pre, x ≤ a.length) ∧ cuts (a ++ e) = pre ++ (cuts e).map (a.length + ·) := by
  have hl : (run (a ++ e) a.length).1 = a.length := by
    rcases h with h | h
    · rw [h]; rfl
    · exact run_mem_last h ((cuts_bound _ _ h).1)
  refine ⟨(run (a ++ e) a.length).2, fun x hx => (run_bound _ _ x hx).2, ?_⟩
  unfold cuts
  rw [List.length_append, run_shift a e hl]

/-- the numbers above m, less m -/
def loc (m : Int) (l : List Int) : List Int := (l.filter fun x => decide (m < x)).map (· - m)

theorem loc_shift (a e : List UInt8) (h : a.length = 0 ∨ (a.length : Int) ∈ (cuts (a ++ e)).map Int.ofNat) : loc a.length ((cuts (a ++ e)).map Int.ofNat) = (cuts e).map Int.ofNat := by
  obtain ⟨pre, hp, hc⟩ := cuts_shift a e (h.imp id (fun h => by
    obtain ⟨x, hx, he⟩ := List.mem_map.1 h
    have : x = a.length := by have : (x : Int) = (a.length : Int) := he; omega
    exact this ▸ hx))
  rw [hc]
  unfold loc
  rw [List.map_append, List.filter_append, List.filter_eq_nil_iff.2 (by
    intro x hx
    obtain ⟨y, hy, rfl⟩ := List.mem_map.1 hx
    have := hp y hy
    simp; omega), List.nil_append, List.filter_eq_self.2 (by
    intro x hx
    obtain ⟨y, hy, rfl⟩ := List.mem_map.1 hx
    obtain ⟨z, hz, rfl⟩ := List.mem_map.1 hy
    have := (cuts_bound e z hz).1
    simp; omega), List.map_map, List.map_map]
  apply List.map_congr_left
  intro x _
  simp; omega

theorem loc_yes {m x : Int} {l : List Int} {k : Nat} (hx : l[k]? = some x) (h : m < x) : loc m (l.take (k + 1)) = loc m (l.take k) ++ [x - m] := by
  unfold loc
  rw [List.take_add_one, hx]
  simp [h]
theorem loc_no {m x : Int} {l : List Int} {k : Nat} (hx : l[k]? = some x) (h : ¬ m < x) : loc m (l.take (k + 1)) = loc m (l.take k) := by
  unfold loc
  rw [List.take_add_one, hx]
  simp; omega
theorem loc_le (m : Int) (l : List Int) (k : Nat) : (loc m (l.take k)).length ≤ k := by
  unfold loc
  rw [List.length_map]
  have := List.length_filter_le (fun x => decide (m < x)) (l.take k)
  have := List.length_take_le k l
  omega

end Go.Proofs.YtnkihdkcmhbhkaaDoor.Chunk
