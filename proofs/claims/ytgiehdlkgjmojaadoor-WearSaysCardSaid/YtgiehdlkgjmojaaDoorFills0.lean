/- Small lemmas on rising lists and sums. -/
import Derived.Test.YtgiehdlkgjmojaaDoorWear1
import Derived.Test.YtgiehdlkgjmojaaDoorRising
namespace Go.Proofs.YtgiehdlkgjmojaaDoor
open Go.RowKit Wear

theorem up_first {ys : List Int} (h : Up ys) {a : Int} (ha : ys[0]? = some a) : ∀ y ∈ ys, a ≤ y := by
  cases ys with
  | nil => simp at ha
  | cons x l =>
    simp at ha; subst ha
    unfold Up at h
    rw [List.pairwise_cons] at h
    intro y hy
    rcases List.mem_cons.1 hy with hy | hy
    · omega
    · exact h.1 y hy
theorem up_last {ys : List Int} (h : Up ys) {b : Int} (hb : ys[ys.length - 1]? = some b) : ∀ y ∈ ys, y ≤ b := by
  intro y hy
  obtain ⟨j, hj, rfl⟩ := List.mem_iff_getElem.1 hy
  have hl : ys.length - 1 < ys.length := by omega
  rw [List.getElem?_eq_getElem hl] at hb
  cases hb
  unfold Up at h
  rw [List.pairwise_iff_getElem] at h
  rcases Nat.lt_or_ge j (ys.length - 1) with h' | h'
  · exact h j _ hj hl h'
  · have : j = ys.length - 1 := by omega
    subst this
    exact Int.le_refl _

theorem code_ok {xs : List Int} (h : codeOf xs = 0) : 0 < xs.length ∧ xs.length ≤ 16 ∧ ∀ x ∈ xs, 0 ≤ x ∧ x ≤ 1000 := by
  unfold codeOf at h
  split at h
  · omega
  · rename_i h'
    split at h
    · omega
    · split at h
      · exact ⟨List.length_pos_iff.2 h', by omega, by assumption⟩
      · omega

theorem sum_take {rs : List Int} {k : Nat} {x : Int} (h : rs[k]? = some x) : (rs.take (k + 1)).sum = (rs.take k).sum + x := by
  rw [List.take_add_one, h]
  simp

theorem sum_perm {a b : List Int} (h : a.Perm b) : a.sum = b.sum := by
  induction h with
  | nil => rfl
  | cons x _ ih => simp [ih]
  | swap x y l => simp; omega
  | trans _ _ h1 h2 => exact h1.trans h2

theorem sum_bounds {l : List Int} (h : ∀ x ∈ l, 0 ≤ x ∧ x ≤ 1000) : 0 ≤ l.sum ∧ l.sum ≤ 1000 * l.length := by
  induction l with
  | nil => simp
  | cons x l ih =>
    have h1 := h x (by simp)
    have h2 := ih (fun y hy => h y (by simp [hy]))
    simp
    omega

theorem gap_iff {ys zs : List Int} {a b : Int} (hp : zs.Perm ys) (hu : Up zs) (ha : zs[0]? = some a) (hb : zs[zs.length - 1]? = some b) (g : Int) : (b - a ≤ g) ↔ GapLe ys g := by
  constructor
  · intro h x hx y hy
    have := up_last hu hb x (hp.mem_iff.2 hx)
    have := up_first hu ha y (hp.mem_iff.2 hy)
    omega
  · intro h
    exact h b (hp.mem_iff.1 (List.mem_of_getElem? hb)) a (hp.mem_iff.1 (List.mem_of_getElem? ha))

end Go.Proofs.YtgiehdlkgjmojaaDoor
