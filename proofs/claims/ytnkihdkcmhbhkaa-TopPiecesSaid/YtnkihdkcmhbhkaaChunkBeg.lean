/- What is appended to a text changes at most its last cut: plain lists. -/
import Derived.Test.YtnkihdkcmhbhkaaChunkMath
namespace Go.Proofs.Ytnkihdkcmhbhkaa.Chunk

theorem sumB_append {t m : List UInt8} {lo hi : Nat} (h : hi ≤ t.length) : sumB (t ++ m) lo hi = sumB t lo hi := by
  unfold sumB
  rw [List.take_append_of_le_length h]

theorem cutAt_append {t m : List UInt8} {f i : Nat} (h : i + 1 < t.length) : cutAt (t ++ m) f i = cutAt t f i := by
  unfold cutAt
  rw [sumB_append (by omega)]
  have e1 : (i + 1 == (t ++ m).length) = false := by simp; omega
  have e2 : (i + 1 == t.length) = false := by simp; omega
  rw [e1, e2]

theorem run_append {t m : List UInt8} {i : Nat} (h : i + 1 ≤ t.length) : run (t ++ m) i = run t i := by
  induction i with
  | zero => rfl
  | succ i ih => simp only [run]; rw [ih (by omega), cutAt_append h]

theorem run_prefix (t : List UInt8) (i d : Nat) : (run t i).2 <+: (run t (i + d)).2 := by
  induction d with
  | zero => exact List.prefix_refl _
  | succ d ih =>
    rw [← Nat.add_assoc]
    simp only [run]
    split
    · exact ih.trans (List.prefix_append _ _)
    · exact ih

theorem cuts_last {t : List UInt8} (h : t ≠ []) : cuts t = (run t (t.length - 1)).2 ++ [t.length] := by
  have h0 : 0 < t.length := List.length_pos_iff.2 h
  obtain ⟨n, hn⟩ : ∃ n, t.length = n + 1 := ⟨t.length - 1, by omega⟩
  unfold cuts
  rw [hn]
  rw [run_yes (cutAt_last hn (by omega) (by omega))]
  rfl

theorem cuts_nil : cuts [] = [] := rfl

theorem begins {t m : List UInt8} (h : t ≠ []) : (cuts t).length - 1 ≤ (cuts (t ++ m)).length ∧ (cuts (t ++ m)).take ((cuts t).length - 1) = (cuts t).take ((cuts t).length - 1) := by
  have h0 : 0 < t.length := List.length_pos_iff.2 h
  have hp : (run t (t.length - 1)).2 <+: cuts (t ++ m) := by
    rw [← run_append (m := m) (by omega)]
    unfold cuts
    have := run_prefix (t ++ m) (t.length - 1) ((t ++ m).length - (t.length - 1))
    rw [show t.length - 1 + ((t ++ m).length - (t.length - 1)) = (t ++ m).length from by simp; omega] at this
    exact this
  rw [cuts_last h]
  simp only [List.length_append, List.length_cons, List.length_nil, Nat.zero_add, Nat.add_sub_cancel]
  refine ⟨hp.length_le, ?_⟩
  rw [List.take_left]
  obtain ⟨r, hr⟩ := hp
  rw [← hr, List.take_left]

end Go.Proofs.Ytnkihdkcmhbhkaa.Chunk
