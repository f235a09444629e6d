/- What the loop of DedupPlays keeps. -/
import Derived.Test.YtaoekllajnnbjaaDoorDedup11
namespace Go.Proofs.YtaoekllajnnbjaaDoor
open Go.RowKit

/-- the reference's store in its variable -/
structure XIs (w : World) (gx : Nat) (v1 v2 : Value) (L : List ByteArray) (N : List Int) : Prop where
  x : w.heap[gx]? = some (.cells #[v1, v2] 27 (0, 0))
  r1 : RowS w (gx + 1) v1 L
  r2 : RowI w (gx + 1) v2 N

theorem XIs.lt {w : World} {gx : Nat} {v1 v2 : Value} {L : List ByteArray} {N : List Int} (h : XIs w gx v1 v2 L N) : gx < w.heap.size := (Array.getElem?_eq_some_iff.1 h.x).1
theorem XIs.cells {w : World} {gx : Nat} {v1 v2 : Value} {L : List ByteArray} {N : List Int} (h : XIs w gx v1 v2 L N) : w.cell? ⟨gx, 0, none⟩ = some v1 ∧ w.cell? ⟨gx, 1, none⟩ = some v2 ∧ w.frozen? ⟨gx, 0, none⟩ = false ∧ w.frozen? ⟨gx, 1, none⟩ = false := by
  have hx := h.x
  refine ⟨?_, ?_, ?_, ?_⟩ <;> simp [World.cell?, World.frozen?, hx]
theorem XIs.strs {w : World} {gx : Nat} {v1 v2 : Value} {L : List ByteArray} {N : List Int} (h : XIs w gx v1 v2 L N) : HasStrs w v1 L := (HasStrs.of_own h.r1.1).2
theorem XIs.ints {w : World} {gx : Nat} {v1 v2 : Value} {L : List ByteArray} {N : List Int} (h : XIs w gx v1 v2 L N) : HasInts w v2 N := (HasInts.of_own h.r2.1).2
theorem XIs.later {w w' : World} {gx : Nat} {v1 v2 : Value} {L : List ByteArray} {N : List Int} (h : XIs w gx v1 v2 L N) (hb : Below w.heap.size w w') : XIs w' gx v1 v2 L N :=
  ⟨by rw [hb.block gx h.lt]; exact h.x, ⟨ownsRow_later h.r1.1 hb, h.r1.2⟩, ⟨ownsRow_later h.r2.1 hb, h.r2.2⟩⟩
theorem XIs.kept {w w' : World} {g gx : Nat} {v1 v2 : Value} {L : List ByteArray} {N : List Int} (h : XIs w gx v1 v2 L N) (hk : Kept w w' g) (hg : g < gx) : XIs w' gx v1 v2 L N :=
  ⟨hk.2 gx _ _ _ h.x (by omega) (by decide), ⟨hk.own h.r1.1 (by omega) (by decide), h.r1.2⟩, ⟨hk.own h.r2.1 (by omega) (by decide), h.r2.2⟩⟩
theorem XIs.count {w w' : World} {gx b : Nat} {v1 v2 v2' : Value} {L : List ByteArray} {N N' : List Int} (h : XIs w gx v1 v2 L N) (hb : Below w.heap.size w w') (hr : RowI w' b v2' N') (hbb : gx < b) : XIs (w'.setCell ⟨gx, 1, none⟩ v2') gx v1 v2' L N' := by
  have h' := h.later hb
  refine ⟨?_, ⟨ownsRow_setCell_below h'.r1.1 (by simp only; omega) _, h'.r1.2⟩, ⟨ownsRow_base (ownsRow_setCell_below hr.1 (by simp only; omega) _) (by omega), hr.2⟩⟩
  rw [heap_setCell_same _ _ _ _ _ _ h'.x]
  rfl
theorem XIs.both {w w' : World} {gx b : Nat} {v1 v2 v1' v2' : Value} {L L' : List ByteArray} {N N' : List Int} (h : XIs w gx v1 v2 L N) (hb : Below w.heap.size w w')
    (hr1 : (v1' = v1 ∧ L' = L) ∨ RowS w' b v1' L') (hr2 : (v2' = v2 ∧ N' = N) ∨ RowI w' b v2' N') (hbb : gx < b) : XIs ((w'.setCell ⟨gx, 0, none⟩ v1').setCell ⟨gx, 1, none⟩ v2') gx v1' v2' L' N' := by
  have h' := h.later hb
  have q1 : RowS w' (gx + 1) v1' L' := by
    rcases hr1 with ⟨rfl, rfl⟩ | hr
    · exact h'.r1
    · exact ⟨ownsRow_base hr.1 (by omega), hr.2⟩
  have q2 : RowI w' (gx + 1) v2' N' := by
    rcases hr2 with ⟨rfl, rfl⟩ | hr
    · exact h'.r2
    · exact ⟨ownsRow_base hr.1 (by omega), hr.2⟩
  refine ⟨?_, ⟨ownsRow_setCell_below (ownsRow_setCell_below q1.1 (by simp only; omega) _) (by simp only; omega) _, q1.2⟩, ⟨ownsRow_setCell_below (ownsRow_setCell_below q2.1 (by simp only; omega) _) (by simp only; omega) _, q2.2⟩⟩
  have e1 := heap_setCell_same w' gx 0 #[v1, v2] 27 v1' h'.x
  rw [heap_setCell_same _ _ _ _ _ _ e1]
  rfl

theorem StoreIs.setX {w : World} {B base g gx o : Nat} {s : St} {cs : Array Value} {t : TypeId} (h : StoreIs w B base g s) (hx : w.heap[gx]? = some (.cells cs t (0, 0))) (ht : t ≠ 54) (hb : base ≤ gx) (v : Value) : StoreIs (w.setCell ⟨gx, o, none⟩ v) B base g s := by
  obtain ⟨ok, lo, ⟨vc, b, h1, h2, h3, h4, h5, h6, h7⟩, free⟩ := h
  have hne : ∀ k, k ≠ gx → (w.setCell ⟨gx, o, none⟩ v).heap[k]? = w.heap[k]? := fun k hk => heap_setCell_other w ⟨gx, o, none⟩ k v hk
  refine ⟨ok, by simpa using lo, ⟨vc, b, h1, h2, h3, ?_, ?_, ?_, ?_⟩, fun p => ?_⟩
  · have e : (w.setCell ⟨gx, o, none⟩ v).cell? ⟨g, 0, none⟩ = w.cell? ⟨g, 0, none⟩ := World.cell?_setCell_other _ _ _ _ (fun e => by simp only [Addr.mk.injEq] at e; omega)
    rw [e]; exact h4
  · refine ⟨h5.1, ?_⟩
    rcases h5.2 with h | ⟨r, cap, cur, e, hr, hh, hc⟩
    · exact .inl h
    · refine .inr ⟨r, cap, cur, e, hr, ?_, hc⟩
      rw [hne r (fun e => by rw [e, hx] at hh; simp at hh; exact ht hh.2)]
      exact hh
  · have e : (w.setCell ⟨gx, o, none⟩ v).cell? ⟨g, 1, none⟩ = w.cell? ⟨g, 1, none⟩ := World.cell?_setCell_other _ _ _ _ (fun e => by simp only [Addr.mk.injEq] at e; omega)
    rw [e]; exact h6
  · rw [hne b (by omega)]; exact h7
  · rw [World.frozen?_setCell]; exact free p

/-- what a round keeps -/
structure PlayIs (W w : World) (base g gx k : Nat) (v1 v2 : Value) (L : List ByteArray) (N : List Int) (s : St) : Prop where
  store : StoreIs w W.heap.size base g s
  top : s.top ≤ k
  mir : Mir s L N
  x : XIs w gx v1 v2 L N
  lo : base ≤ gx
  below : Below W.heap.size W w

theorem PlayIs.later {W w w' : World} {base g gx k : Nat} {v1 v2 : Value} {L : List ByteArray} {N : List Int} {s : St} (h : PlayIs W w base g gx k v1 v2 L N s) (hb : Below w.heap.size w w') : PlayIs W w' base g gx k v1 v2 L N s :=
  ⟨h.store.below hb, h.top, h.mir, h.x.later hb, h.lo, h.below.trans (hb.mono h.below.size)⟩
theorem PlayIs.up {W w : World} {base g gx k k' : Nat} {v1 v2 : Value} {L : List ByteArray} {N : List Int} {s : St} (h : PlayIs W w base g gx k v1 v2 L N s) (hk : k ≤ k') : PlayIs W w base g gx k' v1 v2 L N s :=
  ⟨h.store, Nat.le_trans h.top hk, h.mir, h.x, h.lo, h.below⟩
theorem PlayIs.small {W w : World} {base g gx k : Nat} {v1 v2 : Value} {L : List ByteArray} {N : List Int} {s : St} (h : PlayIs W w base g gx k v1 v2 L N s) (hk : k ≤ 1000000) : ∀ q ∈ N, 0 ≤ q ∧ q ≤ 1000000 := by
  intro q hq
  obtain ⟨i, hi, rfl⟩ := List.mem_iff_getElem.1 hq
  obtain ⟨t, m, hm⟩ := h.mir.chunk (i := i) (by rw [h.mir.len1, ← h.mir.len2]; exact hi)
  obtain ⟨a1, -⟩ := h.mir.at_ i t m hm
  rw [List.getElem?_eq_getElem hi] at a1
  have e := Option.some.inj a1
  have h1 := (h.store.ok.small _ (List.mem_of_getElem? hm)).2
  have h2 := h.top
  simp only at h1
  omega
theorem PlayIs.len {W w : World} {base g gx k : Nat} {v1 v2 : Value} {L : List ByteArray} {N : List Int} {s : St} (h : PlayIs W w base g gx k v1 v2 L N s) : N.length = L.length ∧ L.length ≤ 40 :=
  ⟨by rw [h.mir.len1, h.mir.len2], by rw [h.mir.len1]; exact h.store.ok.len⟩

end Go.Proofs.YtaoekllajnnbjaaDoor
