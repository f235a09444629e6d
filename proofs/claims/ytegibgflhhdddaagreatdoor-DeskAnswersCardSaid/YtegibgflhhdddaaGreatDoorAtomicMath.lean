/- A beginning of a book's text, opened, and the steps told until its lines are there: plain Lean. -/
import Derived.Test.YtegibgflhhdddaaGreatDoorBookTold
import Derived.Test.YtegibgflhhdddaaGreatDoorTurnMath
namespace Go.Proofs.YtegibgflhhdddaaGreatDoor
open Go Go.Lib

theorem write_yes {b : Bk} {p x : Int} (h : b.writeE p x = 0) : (b.write p x).T.length = b.T.length + 1 := by
  unfold Bk.write
  rw [if_pos h]
  simp [Bk.put]
theorem write_no {b : Bk} {p x : Int} (h : b.writeE p x ≠ 0) : b.write p x = b := by
  unfold Bk.write
  rw [if_neg h]
theorem done_yes {b : Bk} (h : b.doneE = 0) : b.done.T.length = b.T.length + 1 := by
  unfold Bk.doneE at h
  unfold Bk.done
  split at h
  · cases h
  · rename_i h1
    rw [if_neg h1]
    simp [Bk.close]
theorem done_no {b : Bk} (h : b.doneE ≠ 0) : b.done = b := by
  unfold Bk.doneE at h
  unfold Bk.done
  split at h
  · rename_i h1
    rw [if_pos h1]
  · exact absurd rfl h

theorem stepB_T (b : Bk) (r : List Int) : b.T <+: (stepB b r).T := by
  unfold stepB
  split
  · unfold Bk.write
    split
    · exact List.prefix_append _ _
    · exact List.prefix_rfl
  · split
    · unfold Bk.done
      split
      · exact List.prefix_rfl
      · exact List.prefix_append _ _
    · exact List.prefix_rfl
theorem foldB_T (rs : List (List Int)) : ∀ b : Bk, b.T <+: (rs.foldl stepB b).T := by
  induction rs with
  | nil => intro b; exact List.prefix_rfl
  | cons r rs ih => intro b; exact (stepB_T b r).trans (ih _)
theorem toldB_T (rs : List (List Int)) {k : Nat} (hk : k ≤ 70) : ((rs.take k).foldl stepB Bk.new).T <+: (toldB rs).T := by
  have e : rs.take 70 = rs.take k ++ (rs.take 70).drop k := by
    have h := List.take_append_drop k (rs.take 70)
    rw [List.take_take, Nat.min_eq_left hk] at h
    exact h.symm
  unfold toldB
  rw [e, List.foldl_append]
  exact foldB_T _ _

theorem Bk.lined_step {b : Bk} (h : b.lined) (r : List Int) : (stepB b r).lined := by
  unfold stepB
  split
  · exact h.write _ _
  · split
    · exact h.done
    · exact h
theorem toldB_lined (rs : List (List Int)) : (toldB rs).lined := by
  have key : ∀ (rs : List (List Int)) (b : Bk), b.lined → (rs.foldl stepB b).lined := by
    intro rs
    induction rs with
    | nil => intro b h; exact h
    | cons r rs ih => intro b h; exact ih _ (Bk.lined_step h r)
  exact key _ _ Bk.lined_new

/-- a beginning of the text, opened -/
structure FrontIs (b : Bk) (n : Nat) (c : Bk) : Prop where
  lines : (b.text.take n).count 10 ≤ b.T.length
  opened : openB (b.text.take n) = some c.whole
  many : openN (b.text.take n) = (b.text.take n).count 10
  err : openE (b.text.take n) = 0
  same : ∀ a : Bk, a.told → a.T <+: b.T → a.T.length = (b.text.take n).count 10 → a = c ∧ a.whole.text <+: b.text.take n

theorem flatT_prefix {S T : List (List UInt8)} (h : S <+: T) : flatT S <+: flatT T := by
  obtain ⟨U, rfl⟩ := h
  rw [flatT_append]
  exact List.prefix_append _ _

theorem front_is {b : Bk} (hok : b.ok) (ht : b.told) (n : Nat) : ∃ c, FrontIs b n c := by
  obtain ⟨k, r, hk, hr, he⟩ := text_front b.T n hok.feed
  have he' : b.text.take n = flatT (b.T.take k) ++ r := he
  have hfk : ∀ l ∈ b.T.take k, (10 : UInt8) ∉ l := fun l hl => hok.feed l (List.mem_of_mem_take hl)
  have hlen : (b.T.take k).length = k := by rw [List.length_take]; omega
  have hcount : (b.text.take n).count 10 = k := by rw [he', count_flat _ _ hfk hr, hlen]
  have hsz : ¬ 2000 < (b.text.take n).length := by have := Bk.text_small hok; rw [List.length_take]; omega
  have hw : wholeLines (b.text.take n) = b.T.take k := by rw [he']; exact (wholeLines_text _ r hfk hr).1
  have ht' : Bk.new.lines (b.T.take k ++ b.T.drop k) = (b, 0, b.T.length) := by rw [List.take_append_drop]; exact ht
  obtain ⟨c, hc⟩ := Bk.lines_front ht'
  have hsame : ∀ a : Bk, a.told → a.T <+: b.T → a.T.length = k → a = c ∧ a.whole.text <+: b.text.take n := fun a ha hp hl => by
    have e : a.T = b.T.take k := by
      have h1 := List.prefix_iff_eq_take.1 hp
      rw [hl] at h1
      exact h1
    have ha' : Bk.new.lines a.T = (a, 0, a.T.length) := ha
    rw [e, hc] at ha'
    refine ⟨(Prod.mk.inj ha').1.symm, ?_⟩
    rw [he']
    refine List.IsPrefix.trans ?_ (List.prefix_append _ _)
    have h1 : a.whole.text = flatT (a.T.take (a.T.length - a.G.length)) := rfl
    rw [h1, ← e]
    exact flatT_prefix (List.take_prefix _ _)
  refine ⟨c, by rw [hcount]; exact hk, ?_, ?_, ?_, by rw [hcount]; exact hsame⟩
  · unfold openB; rw [if_neg hsz, hw, hc]; exact if_pos rfl
  · unfold openN; rw [if_neg hsz, hw, hc, hcount]; exact hlen
  · unfold openE; rw [if_neg hsz, hw, hc]

end Go.Proofs.YtegibgflhhdddaaGreatDoor
