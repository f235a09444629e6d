/- The store and the reference's store beside one another: no walk. -/
import Derived.Test.YtaoekllajnnbjaaDoorDedup10
import Derived.Test.YtaoekllajnnbjaaDoorTold
namespace Go.Proofs.YtaoekllajnnbjaaDoor
open Go.RowKit

/-- L and N are the reference's texts and counts of s -/
structure Mir (s : St) (L : List ByteArray) (N : List Int) : Prop where
  len1 : L.length = s.C.length
  len2 : N.length = s.C.length
  at_ : ∀ (i : Nat) (t : ByteArray) (k : Nat), s.C[i]? = some (t, k) → N[i]? = some (k : Int) ∧ (0 < k → L[i]? = some t)
  sz : ∀ x ∈ L, x.size ≤ 64

theorem Mir.new : Mir St.new [] [] := ⟨rfl, rfl, fun i t k h => by simp [St.new] at h, fun x h => by simp at h⟩

theorem Mir.chunk {s : St} {L : List ByteArray} {N : List Int} (h : Mir s L N) {i : Nat} (hi : i < L.length) : ∃ t k, s.C[i]? = some (t, k) :=
  ⟨(s.C[i]'(by rw [← h.len1]; exact hi)).1, (s.C[i]'(by rw [← h.len1]; exact hi)).2, List.getElem?_eq_getElem _⟩

theorem Mir.live {s : St} {L : List ByteArray} {N : List Int} (h : Mir s L N) (t : ByteArray) (i : Nat) : LiveAt L N t i ↔ ∃ k, 0 < k ∧ s.C[i]? = some (t, k) := by
  constructor
  · intro ⟨h1, k, h2, h3⟩
    obtain ⟨u, m, hc⟩ := h.chunk (List.getElem?_eq_some_iff.1 h1).1
    obtain ⟨a1, a2⟩ := h.at_ i u m hc
    rw [h2] at a1
    have e := Option.some.inj a1
    have hm : 0 < m := by omega
    have e2 := a2 hm
    rw [h1] at e2
    exact ⟨m, hm, by rw [hc, Option.some.inj e2]⟩
  · intro ⟨k, hk, hc⟩
    obtain ⟨a1, a2⟩ := h.at_ i t k hc
    exact ⟨a2 hk, k, a1, by omega⟩

theorem Mir.count {s : St} {L : List ByteArray} {N : List Int} (h : Mir s L N) {i : Nat} {u t : ByteArray} {k m : Nat} (hi : s.C[i]? = some (u, k)) (hm : 0 < m → L[i]? = some t) (M : List Ent) (c top : Nat) : Mir ⟨s.C.set i (t, m), M, c, top⟩ L (N.set i (m : Int)) := by
  have hlt := (List.getElem?_eq_some_iff.1 hi).1
  refine ⟨by simp [h.len1], by simp [h.len2], fun j x q hj => ?_, h.sz⟩
  simp only at hj
  by_cases hij : i = j
  · subst hij
    rw [List.getElem?_set_self hlt] at hj
    simp only [Option.some.injEq, Prod.mk.injEq] at hj
    obtain ⟨rfl, rfl⟩ := hj
    exact ⟨List.getElem?_set_self (by rw [h.len2]; exact hlt), hm⟩
  · rw [List.getElem?_set_ne hij] at hj
    rw [List.getElem?_set_ne hij]
    exact h.at_ j x q hj

theorem Mir.more {s : St} {L : List ByteArray} {N : List Int} (h : Mir s L N) {t : ByteArray} (ht : t.size ≤ 64) (M : List Ent) (c top : Nat) : Mir ⟨s.C ++ [(t, 1)], M, c, top⟩ (L ++ [t]) (N ++ [1]) := by
  refine ⟨by simp [h.len1], by simp [h.len2], fun j x q hj => ?_, fun x hx => ?_⟩
  · simp only at hj
    rcases Nat.lt_or_ge j s.C.length with hlt | hge
    · rw [List.getElem?_append_left hlt] at hj
      rw [List.getElem?_append_left (by rw [h.len2]; exact hlt), List.getElem?_append_left (by rw [h.len1]; exact hlt)]
      exact h.at_ j x q hj
    · rw [List.getElem?_append_right hge] at hj
      rw [List.getElem?_append_right (by rw [h.len2]; exact hge), List.getElem?_append_right (by rw [h.len1]; exact hge), h.len1, h.len2]
      obtain ⟨d, hd⟩ : ∃ d, d = j - s.C.length := ⟨_, rfl⟩
      rw [← hd] at hj ⊢
      cases d with
      | zero =>
        simp only [List.getElem?_cons_zero, Option.some.injEq, Prod.mk.injEq] at hj
        obtain ⟨rfl, rfl⟩ := hj
        exact ⟨rfl, fun _ => rfl⟩
      | succ d => simp at hj
  · rcases List.mem_append.1 hx with hx | hx
    · exact h.sz x hx
    · simp only [List.mem_singleton] at hx
      rw [hx]
      exact ht

/-- Put is the same on both sides -/
theorem Mir.put {s s' : St} {L L' : List ByteArray} {N N' : List Int} {t : ByteArray} {n n' c : Int} {fresh fresh' : Bool} {ev : Value} (h : Mir s L N) (hok : s.ok) (hp : PutRel s s' t n fresh ev) (hr : RefPut L N t L' N' n' fresh' c) :
    n = n' ∧ fresh = fresh' ∧ ((c = 0 ∧ ev = .nilIface) ∨ (c = 4 ∧ ev = .iface 48 (.int .i64 4))) ∧ Mir s' L' N' := by
  cases hp with
  | long h1 h2 =>
    subst h2
    cases hr with
    | long _ => exact ⟨rfl, rfl, .inr ⟨rfl, rfl⟩, h⟩
    | had i k h3 _ _ _ => omega
    | full h3 _ _ => omega
    | new h3 _ _ => omega
  | had i k h1 h2 h3 h4 =>
    subst h4
    have hlive : LiveAt L N t i := (h.live t i).2 ⟨k, h2, h3⟩
    cases hr with
    | long h5 => omega
    | had j m h5 h6 h7 h8 =>
      obtain ⟨q, hq, hc⟩ := (h.live t j).1 ⟨h6, m, h7, h8⟩
      have hij := St.one hok h3 hc h2 hq
      subst hij
      rw [h3] at hc
      have e : k = q := by simpa using hc
      subst e
      obtain ⟨a1, a2⟩ := h.at_ i t k h3
      rw [h7] at a1
      have em := Option.some.inj a1
      subst em
      exact ⟨rfl, rfl, .inl ⟨rfl, rfl⟩, by have := h.count (m := k + 1) h3 (fun _ => a2 h2) s.M s.c (s.top + 1); simpa using this⟩
    | full h5 h6 h7 => exact absurd hlive (h6 i)
    | new h5 h6 h7 => exact absurd hlive (h6 i)
  | full h1 h2 h3 h4 =>
    subst h4
    have hno : ∀ i, ¬ LiveAt L N t i := fun i hl => by
      obtain ⟨k, hk, hc⟩ := (h.live t i).1 hl
      have := h2 i k hc
      omega
    cases hr with
    | long h5 => omega
    | had j m h5 h6 h7 h8 => exact absurd ⟨h6, m, h7, h8⟩ (hno j)
    | full h5 h6 h7 => exact ⟨rfl, rfl, .inr ⟨rfl, rfl⟩, h⟩
    | new h5 h6 h7 => rw [h.len1] at h7; omega
  | new h1 h2 h3 h4 =>
    subst h4
    have hno : ∀ i, ¬ LiveAt L N t i := fun i hl => by
      obtain ⟨k, hk, hc⟩ := (h.live t i).1 hl
      have := h2 i k hc
      omega
    cases hr with
    | long h5 => omega
    | had j m h5 h6 h7 h8 => exact absurd ⟨h6, m, h7, h8⟩ (hno j)
    | full h5 h6 h7 => rw [h.len1] at h7; omega
    | new h5 h6 h7 => exact ⟨by rw [h.len1], rfl, .inl ⟨rfl, rfl⟩, h.more h1 _ _ _⟩

/-- what is wrong with a number, on both sides -/
theorem Mir.wrong {s : St} {L : List ByteArray} {N : List Int} {id c : Int} (h : Mir s L N) (hw : WrongIs N id c) : (NoChunk s id c ∧ c ≠ 0) ∨ (c = 0 ∧ ∃ (i : Nat) (t : ByteArray) (k : Nat), id = i ∧ 0 < k ∧ s.C[i]? = some (t, k) ∧ N[i]? = some (k : Int) ∧ L[i]? = some t) := by
  rcases hw with ⟨rfl, hb⟩ | ⟨i, k, rfl, hk, hc⟩
  · exact .inl ⟨.inl ⟨rfl, by rw [h.len2] at hb; exact hb⟩, by omega⟩
  · obtain ⟨t, m, hm⟩ := h.chunk (i := i) (by rw [h.len1, ← h.len2]; exact (List.getElem?_eq_some_iff.1 hk).1)
    obtain ⟨a1, a2⟩ := h.at_ i t m hm
    rw [hk] at a1
    have e := Option.some.inj a1
    rcases hc with ⟨rfl, h0⟩ | ⟨rfl, h0⟩
    · have hm0 : m = 0 := by omega
      subst hm0
      exact .inl ⟨.inr ⟨rfl, i, t, rfl, hm⟩, by omega⟩
    · have hm0 : 0 < m := by omega
      exact .inr ⟨rfl, i, t, m, rfl, hm0, hm, by rw [hk, e], a2 hm0⟩

/-- a step of the sums -/
theorem Mir.sums {s : St} {L : List ByteArray} {N : List Int} (h : Mir s L N) (hok : s.ok) {i : Nat} {x : ByteArray} {k : Int} (hx : L[i]? = some x) (hk : N[i]? = some k) :
    ∃ m : Nat, k = m ∧ m ≤ s.top ∧ allTo s.C (i + 1) = allTo s.C i + m * x.size ∧ keptTo s.C (i + 1) = keptTo s.C i + (if 0 < m then x.size else 0) := by
  obtain ⟨t, m, hc⟩ := h.chunk (List.getElem?_eq_some_iff.1 hx).1
  obtain ⟨a1, a2⟩ := h.at_ i t m hc
  rw [hk] at a1
  have hs := hok.small _ (List.mem_of_getElem? hc)
  refine ⟨m, Option.some.inj a1, hs.2, ?_, ?_⟩
  · rw [allTo_step hc]
    rcases Nat.eq_zero_or_pos m with h0 | h0
    · subst h0; simp
    · have := a2 h0
      rw [hx] at this
      rw [Option.some.inj this]
  · rw [keptTo_step hc]
    rcases Nat.eq_zero_or_pos m with h0 | h0
    · subst h0
      have := hok.gone _ (List.mem_of_getElem? hc) rfl
      simp only at this
      rw [this]
      rfl
    · have := a2 h0
      rw [hx] at this
      rw [Option.some.inj this, if_pos h0]

end Go.Proofs.YtaoekllajnnbjaaDoor
