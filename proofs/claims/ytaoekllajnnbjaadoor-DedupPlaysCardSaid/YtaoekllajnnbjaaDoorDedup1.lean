/- The store of chunks: what it is in a world; New. -/
import Derived.Test.YtaoekllajnnbjaaDoorProg
import Derived.Test.YtaoekllajnnbjaaDoorDMap
import Derived.Deep.AppendLies
import Derived.Deep.RegionLaw
import Derived.Carry
namespace Go.Proofs.YtaoekllajnnbjaaDoor
open Go.RowKit Go.MapKept
open Go.ChangeMaps (setBlock)

abbrev Chunk := ByteArray × Nat
def chunksV (C : List Chunk) : List Value := C.flatMap fun e => [.string e.1, .int .i64 (e.2 : Nat)]
theorem chunksV_length (C : List Chunk) : (chunksV C).length = C.length * 2 := by
  induction C with
  | nil => rfl
  | cons e C ih => simp [chunksV] at *; omega
theorem chunksV_text {C : List Chunk} {i : Nat} {e : Chunk} (h : C[i]? = some e) : (chunksV C)[i * 2]? = some (.string e.1) := by
  induction C generalizing i with
  | nil => simp at h
  | cons x C ih =>
    rcases i with _ | i
    · simp at h; subst h; simp [chunksV]
    · simp at h
      have := ih h
      simp only [chunksV, List.flatMap_cons] at this ⊢
      rw [show (i + 1) * 2 = i * 2 + 2 by omega]
      simpa using this
theorem chunksV_count {C : List Chunk} {i : Nat} {e : Chunk} (h : C[i]? = some e) : (chunksV C)[i * 2 + 1]? = some (.int .i64 (e.2 : Nat)) := by
  induction C generalizing i with
  | nil => simp at h
  | cons x C ih =>
    rcases i with _ | i
    · simp at h; subst h; simp [chunksV]
    · simp at h
      have := ih h
      simp only [chunksV, List.flatMap_cons] at this ⊢
      rw [show (i + 1) * 2 + 1 = (i * 2 + 1) + 2 by omega]
      simpa using this
theorem chunksV_setCount {C : List Chunk} {i : Nat} {e : Chunk} (h : C[i]? = some e) (k : Nat) : (chunksV C).set (i * 2 + 1) (.int .i64 (k : Nat)) = chunksV (C.set i (e.1, k)) := by
  induction C generalizing i with
  | nil => simp at h
  | cons x C ih =>
    rcases i with _ | i
    · simp at h; subst h; simp [chunksV]
    · simp at h
      have := ih h
      simp only [chunksV, List.flatMap_cons, List.set_cons_succ] at this ⊢
      rw [show (i + 1) * 2 + 1 = (i * 2 + 1) + 2 by omega]
      simpa using this
theorem chunksV_setText {C : List Chunk} {i : Nat} {e : Chunk} (h : C[i]? = some e) (t : ByteArray) : (chunksV C).set (i * 2) (.string t) = chunksV (C.set i (t, e.2)) := by
  induction C generalizing i with
  | nil => simp at h
  | cons x C ih =>
    rcases i with _ | i
    · simp at h; subst h; simp [chunksV]
    · simp at h
      have := ih h
      simp only [chunksV, List.flatMap_cons, List.set_cons_succ] at this ⊢
      rw [show (i + 1) * 2 = (i * 2) + 2 by omega]
      simpa using this
theorem chunksV_append (C : List Chunk) (t : ByteArray) : chunksV C ++ [.string t, .int .i64 1] = chunksV (C ++ [(t, 1)]) := by
  simp [chunksV]

structure St where
  C : List Chunk
  M : List Ent
  c : Nat
  top : Nat

structure St.ok (s : St) : Prop where
  len : s.C.length ≤ 40
  key : ∀ e ∈ s.M, ∃ k, 0 < k ∧ s.C[e.2.1]? = some (e.1, k)
  live : ∀ i t k, s.C[i]? = some (t, k) → 0 < k → ∃ b, (t, i, b) ∈ s.M
  apart : s.M.Pairwise fun a b => a.1 ≠ b.1
  born : ∀ e ∈ s.M, e.2.2 < s.c
  small : ∀ e ∈ s.C, e.1.size ≤ 64 ∧ e.2 ≤ s.top
  gone : ∀ e ∈ s.C, e.2 = 0 → e.1 = ByteArray.empty

def St.new : St := ⟨[], [], 0, 0⟩
theorem St.new_ok : St.new.ok := ⟨by decide, by simp [St.new], by simp [St.new], by simp [St.new], by simp [St.new], by simp [St.new], by simp [St.new]⟩

/-- what the store's methods leave as it is -/
def Kept (w w' : World) (g : Nat) : Prop :=
  w.heap.size ≤ w'.heap.size ∧ ∀ x cur t fr, w.heap[x]? = some (.cells cur t fr) → x ≠ g → t ≠ 54 → w'.heap[x]? = some (.cells cur t fr)
theorem Kept.refl (w : World) (g : Nat) : Kept w w g := ⟨Nat.le_refl _, fun _ _ _ _ h _ _ => h⟩
theorem Kept.trans {a b c : World} {g : Nat} (h : Kept a b g) (k : Kept b c g) : Kept a c g := ⟨Nat.le_trans h.1 k.1, fun x cur t fr h1 h2 h3 => k.2 x cur t fr (h.2 x cur t fr h1 h2 h3) h2 h3⟩
theorem Kept.of_below {w w' : World} (g : Nat) (h : Below w.heap.size w w') : Kept w w' g :=
  ⟨h.size, fun x cur t fr h1 _ _ => by rw [h.block x (Array.getElem?_eq_some_iff.1 h1).1]; exact h1⟩
theorem Kept.own {w w' : World} {g base : Nat} {e : TypeId} {size : Nat} {v : Value} {n : Nat} {xs : List Value} (hk : Kept w w' g) (h : w.ownsRow base e size v n xs) (hb : g < base) (he : e ≠ 54) : w'.ownsRow base e size v n xs := by
  obtain ⟨h1, h2⟩ := h
  refine ⟨h1, ?_⟩
  rcases h2 with h2 | ⟨r, cap, cur, rfl, hr, hh, hc⟩
  · exact .inl h2
  · exact .inr ⟨r, cap, cur, rfl, hr, hk.2 r _ _ _ hh (by omega) he, hc⟩

structure StoreIs (w : World) (B base g : Nat) (s : St) : Prop where
  ok : s.ok
  lo : B ≤ g ∧ g < base ∧ base ≤ w.heap.size
  cells : ∃ v b, B ≤ b ∧ b < base ∧ b ≠ g ∧ w.cell? ⟨g, 0, none⟩ = some v ∧ w.ownsRow base 54 2 v s.C.length (chunksV s.C) ∧ w.cell? ⟨g, 1, none⟩ = some (.map (some b)) ∧ w.heap[b]? = some (.map (ents s.M) s.c)
  free : ∀ o, w.frozen? ⟨g, o, none⟩ = false

theorem StoreIs.below {w w' : World} {B base g : Nat} {s : St} (h : StoreIs w B base g s) (hb : Below w.heap.size w w') : StoreIs w' B base g s := by
  obtain ⟨ok, lo, ⟨v, b, h1, h2, h3, h4, h5, h6, h7⟩, free⟩ := h
  have hg : g < w.heap.size := by omega
  exact ⟨ok, ⟨lo.1, lo.2.1, Nat.le_trans lo.2.2 hb.size⟩, ⟨v, b, h1, h2, h3, by rw [hb.cell (p := ⟨g, 0, none⟩) hg]; exact h4,
    ownsRow_later h5 hb, by rw [hb.cell (p := ⟨g, 1, none⟩) hg]; exact h6, by rw [hb.block b (by omega)]; exact h7⟩, fun o => by rw [hb.frozen (p := ⟨g, o, none⟩) hg]; exact free o⟩
theorem StoreIs.drewN {w : World} {B base g : Nat} {s : St} (h : StoreIs w B base g s) (n : Nat) : StoreIs (w.drewN n) B base g s := h.below (below_drewN' w n)

theorem dnew_walk (w : World) : Calls Tryd.prog 4 #[] w fun e w' => ∃ g base, e = .returned (.pointer (some ⟨g, 0, none⟩)) ∧ StoreIs w' w.heap.size base g St.new ∧ Below w.heap.size w w' := by
  have hmm := @run_makeMap Tryd.prog
  go_enter Tryd.func4, Tryd.ntmps4
  go_wp2_with fail
  go_ret
  refine ⟨_, w.heap.size + 2, rfl, ⟨St.new_ok, ⟨by simp, by simp, by simp⟩, ⟨_, w.heap.size, Nat.le_refl _, by simp, by simp, by simp, World.ownsRow_nil _ _ _ _, by simp, ?_⟩, fun o => by simp⟩, ?_⟩
  · have e1 := heap_alloc_new w (.map #[] 0)
    have e2 : w.heap.size < (w.alloc (.map #[] 0)).heap.size := by simp
    exact (heap_alloc _ _).2 _ e2 ▸ e1
  · exact ((Below.refl _ _).alloc (Nat.le_refl _) _).alloc (by simp) _

end Go.Proofs.YtaoekllajnnbjaaDoor
