/- The walk of dedupFact; what DedupOnce needs of the store. -/
import Derived.Test.YtnkihdkcmhbhkaaDoorDedup3
namespace Go.Proofs.YtnkihdkcmhbhkaaDoor
open Go.RowKit Go.MapKept

def ab : ByteArray := ⟨#[97, 98]⟩
def sAb : St := ⟨[(ab, 1)], [(ab, 0, 0)], 1, 1⟩
def sAb2 : St := ⟨[(ab, 2)], [(ab, 0, 0)], 1, 2⟩

theorem put_first {s' : St} {n : Int} {fresh : Bool} {ev : Value} (h : PutRel St.new s' ab n fresh ev) : n = 0 ∧ fresh = true ∧ ev = .nilIface ∧ s' = sAb := by
  cases h with
  | long h => exact absurd h (by decide)
  | had i k _ _ hi _ => simp [St.new] at hi
  | full _ _ h _ => simp [St.new] at h
  | new _ _ _ e => exact ⟨rfl, rfl, rfl, e⟩
theorem put_second {s' : St} {n : Int} {fresh : Bool} {ev : Value} (h : PutRel sAb s' ab n fresh ev) : n = 0 ∧ fresh = false ∧ ev = .nilIface ∧ s' = sAb2 := by
  cases h with
  | long h => exact absurd h (by decide)
  | had i k _ _ hi e =>
    rcases i with _ | i
    · simp [sAb] at hi
      subst hi
      exact ⟨rfl, rfl, rfl, e⟩
    · simp [sAb] at hi
  | full _ _ h _ => simp [sAb] at h
  | new _ h _ _ => exact absurd (h 0 1 rfl) (by decide)

set_option maxHeartbeats 1000000 in
theorem dfact_walk (W : World) : Calls Tryd.prog 12 #[] W fun e w' => e = .returned (.bool true) ∧ Below W.heap.size W w' := by
  go_enter Tryd.func12, Tryd.ntmps12
  go_wp2_with fail
  refine (dnew_walk _).mono ?_
  rintro _ w1 ⟨g, base, rfl, hs, hb⟩
  have HS := Lib.hid hs
  have HB := Lib.hid hb
  clear hs hb
  go_wp2_with fail
  refine (put_walk _ W.heap.size base g St.new ab HS.out (by decide) (by decide)).mono ?_
  rintro _ w2 ⟨n, fresh, ev, s', rfl, hrel, hs, hb, -⟩
  obtain ⟨rfl, rfl, rfl, rfl⟩ := put_first hrel
  have HS2 := Lib.hid hs
  have HB2 := Lib.hid (HB.out.trans hb)
  clear hs hb hrel
  go_wp2_with fail
  refine (put_walk _ W.heap.size base g sAb ab HS2.out (by decide) (by decide)).mono ?_
  rintro _ w3 ⟨n, fresh, ev, s', rfl, hrel, hs, hb, -⟩
  obtain ⟨rfl, rfl, rfl, rfl⟩ := put_second hrel
  have HS3 := Lib.hid hs
  have HB3 := Lib.hid (HB2.out.trans hb)
  clear hs hb hrel
  go_wp2_with fail
  refine (sizes_walk _ W.heap.size base g sAb2 HS3.out (by decide)).mono ?_
  rw [show allTo sAb2.C sAb2.C.length = 4 from rfl, show keptTo sAb2.C sAb2.C.length = 2 from rfl]
  rintro _ w4 ⟨rfl, hb⟩
  have HB4 := Lib.hid (HB3.out.trans (hb.mono HB3.out.size))
  clear hb
  go_wp2_with fail
  go_ret
  exact ⟨rfl, HB4.out⟩

theorem law_inD (a b c : Int) (w : World) :
    Calls Tryd.prog 13 #[.int .i64 a, .int .i64 b, .int .i64 c] w fun e w' => e = .returned (.bool (decide (b ≤ a ∧ a ≤ c))) ∧ w = w' := by
  by_cases h1 : b ≤ a
  · have q1 : decide (b ≤ a) = true := decide_eq_true h1
    by_cases h2 : a ≤ c
    · have q2 : decide (a ≤ c) = true := decide_eq_true h2
      go_enter Tryd.func13, Tryd.ntmps13
      go_wp2
      go_ret
      exact ⟨by simp [h1, h2], rfl⟩
    · have q2 : decide (a ≤ c) = false := decide_eq_false h2
      go_enter Tryd.func13, Tryd.ntmps13
      go_wp2
      go_ret
      exact ⟨by simp, rfl⟩
  · have q1 : decide (b ≤ a) = false := decide_eq_false h1
    go_enter Tryd.func13, Tryd.ntmps13
    go_wp2
    go_ret
    exact ⟨by simp, rfl⟩

/-- a text that lives has one number -/
theorem St.one {s : St} (h : s.ok) {t : ByteArray} {i j k m : Nat} (hi : s.C[i]? = some (t, k)) (hj : s.C[j]? = some (t, m)) (hk : 0 < k) (hm : 0 < m) : i = j := by
  obtain ⟨b, hb⟩ := h.live i t k hi hk
  obtain ⟨c, hc⟩ := h.live j t m hj hm
  have hp := h.apart
  by_cases e : i = j
  · exact e
  · exfalso
    have hne : ((t, i, b) : Ent) ≠ (t, j, c) := fun e' => e (by simp at e'; exact e'.1)
    rw [List.pairwise_iff_getElem] at hp
    obtain ⟨p, hp1, hp2⟩ := List.mem_iff_getElem.1 hb
    obtain ⟨q, hq1, hq2⟩ := List.mem_iff_getElem.1 hc
    rcases Nat.lt_trichotomy p q with h1 | h1 | h1
    · exact hp p q hp1 hq1 h1 (by rw [hp2, hq2])
    · subst h1
      exact hne (hp2.symm.trans hq2)
    · exact hp q p hq1 hp1 h1 (by rw [hp2, hq2])

theorem PutRel.went {s s' : St} {t : ByteArray} {n : Int} {fresh : Bool} {ev : Value} (h : PutRel s s' t n fresh ev) (hl : s.C.length < 40) :
    (ev = .iface 55 (.int .i64 4) ∧ 64 < t.size) ∨
    (ev = .nilIface ∧ t.size ≤ 64 ∧ s'.C.length ≤ s.C.length + 1 ∧ s'.top = s.top + 1 ∧ (∃ id k : Nat, n = id ∧ id < 40 ∧ 0 < k ∧ s'.C[id]? = some (t, k)) ∧
      ∀ (q k : Nat) (u : ByteArray), s.C[q]? = some (u, k) → 0 < k → ∃ k', 0 < k' ∧ s'.C[q]? = some (u, k')) := by
  cases h with
  | long h _ => exact .inl ⟨rfl, h⟩
  | had i k h1 hk hi e =>
    have hlt := (List.getElem?_eq_some_iff.1 hi).1
    subst e
    refine .inr ⟨rfl, h1, by simp, rfl, ⟨i, k + 1, rfl, by omega, by omega, by simp only; rw [List.getElem?_set_self hlt]⟩, fun q m u hq hm => ?_⟩
    by_cases e : i = q
    · subst e
      rw [hi] at hq
      simp at hq
      exact ⟨k + 1, by omega, by simp only; rw [List.getElem?_set_self hlt, hq.1]⟩
    · exact ⟨m, hm, by simp only; rw [List.getElem?_set_ne e]; exact hq⟩
  | full _ _ h _ => omega
  | new h1 _ _ e =>
    subst e
    refine .inr ⟨rfl, h1, by simp, rfl, ⟨s.C.length, 1, rfl, hl, by omega, by simp⟩, fun q m u hq hm => ⟨m, hm, ?_⟩⟩
    simp only
    rw [List.getElem?_append_left (List.getElem?_eq_some_iff.1 hq).1]
    exact hq

/-- an append to a row of another kind leaves the store -/
theorem StoreIs.pushed {w w' : World} {B base g : Nat} {s : St} {v : Value} {n : Nat} {xs : List Value} {o : Obj} {e : TypeId} {z : Nat} (hs : StoreIs w B base g s) (he : e ≠ 63) (hown : w.ownsRow base e z v n xs) (hg : (w.alloc o).grownBy w' v.ownBlock) :
    StoreIs w' B base g s := by
  have hs1 := hs.below ((Below.refl w.heap.size w).alloc (Nat.le_refl _) o)
  have hown1 := hown.alloc o
  have hv := hown.lt
  obtain ⟨ok, lo, ⟨vc, b, h1, h2, h3, h4, h5, h6, h7⟩, free⟩ := hs1
  have hg0 : g < (w.alloc o).heap.size := by omega
  have hgv : some g ≠ v.ownBlock := fun e => by have := hv g e.symm; omega
  have hbv : some b ≠ v.ownBlock := fun e => by have := hv b e.symm; omega
  refine ⟨ok, ⟨lo.1, lo.2.1, Nat.le_trans lo.2.2 hg.size⟩, ⟨vc, b, h1, h2, h3, by rw [hg.cell_far _ hg0 hgv]; exact h4, h5.kept hg ?_, by rw [hg.cell_far _ hg0 hgv]; exact h6, by rw [hg.block b (by omega) hbv]; exact h7⟩, fun o' => by rw [hg.frozen_far _ hg0 hgv]; exact free o'⟩
  rcases h5.2 with ⟨rfl, _⟩ | ⟨r, cap, cur, rfl, _, hr, _⟩
  · exact .inl rfl
  · right
    intro e'
    rcases hown1.2 with ⟨rfl, _⟩ | ⟨r', cap', cur', rfl, _, hr', _⟩
    · simp [Value.ownBlock] at e'
    · simp [Value.ownBlock] at e'
      subst e'
      rw [hr] at hr'
      cases hr'
      exact he rfl

end Go.Proofs.YtnkihdkcmhbhkaaDoor
