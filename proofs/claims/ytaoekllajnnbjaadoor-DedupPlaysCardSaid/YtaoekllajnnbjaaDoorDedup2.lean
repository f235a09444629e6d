/- The walk of Put. -/
import Derived.Test.YtaoekllajnnbjaaDoorDedup1
namespace Go.Proofs.YtaoekllajnnbjaaDoor
open Go.RowKit Go.MapKept
open Go.ChangeMaps (setBlock)

/-- what Put tells and does -/
inductive PutRel (s s' : St) (t : ByteArray) : Int → Bool → Value → Prop
  | long : 64 < t.size → s' = s → PutRel s s' t 0 false (.iface 48 (.int .i64 4))
  | had (i k : Nat) : t.size ≤ 64 → 0 < k → s.C[i]? = some (t, k) → s' = { s with C := s.C.set i (t, k + 1), top := s.top + 1 } → PutRel s s' t i false .nilIface
  | full : t.size ≤ 64 → (∀ i k : Nat, s.C[i]? = some (t, k) → k = 0) → s.C.length = 40 → s' = s → PutRel s s' t 0 false (.iface 48 (.int .i64 4))
  | new : t.size ≤ 64 → (∀ i k : Nat, s.C[i]? = some (t, k) → k = 0) → s.C.length < 40 → s' = ⟨s.C ++ [(t, 1)], s.M ++ [(t, s.C.length, s.c)], s.c + 1, s.top + 1⟩ → PutRel s s' t s.C.length true .nilIface

theorem infoI0 : (Tryd.prog.info? 3).map (fun i => (i.zero, i.size, i.bytes)) = some (some (.int .i64 0), 1, 8) := by kernel_rfl
theorem zeroInt : ∀ w : World, (zeroValue 3).run Tryd.prog w = .ok (.int .i64 0) w := fun w => by
  obtain ⟨i, hi, hz, -⟩ := info_parts infoI0
  simp [zeroValue, typeInfo, run_program, hi, hz, Result.andThen]

theorem St.not_live {s : St} (h : s.ok) {t : ByteArray} (hn : ∀ e ∈ s.M, e.1 ≠ t) (i k : Nat) (hi : s.C[i]? = some (t, k)) : k = 0 := by
  rcases Nat.eq_zero_or_pos k with h0 | h0
  · exact h0
  · obtain ⟨b, hb⟩ := h.live i t k hi h0
    exact absurd rfl (hn _ hb)

theorem St.had_ok {s : St} (h : s.ok) {t : ByteArray} {i k : Nat} (hk : 0 < k) (hi : s.C[i]? = some (t, k)) : (St.mk (s.C.set i (t, k + 1)) s.M s.c (s.top + 1)).ok := by
  have hlt : i < s.C.length := (List.getElem?_eq_some_iff.1 hi).1
  refine ⟨by simpa using h.len, fun e he => ?_, fun j u m hj hm => ?_, h.apart, h.born, fun e he => ?_, fun e he h0 => ?_⟩
  · obtain ⟨m, hm, hc⟩ := h.key e he
    by_cases hj : i = e.2.1
    · rw [← hj, hi] at hc
      simp at hc
      exact ⟨k + 1, by omega, by simp only; rw [← hj, List.getElem?_set_self hlt, hc.1]⟩
    · exact ⟨m, hm, by simp only; rw [List.getElem?_set_ne hj]; exact hc⟩
  · simp only at hj
    by_cases hij : i = j
    · subst hij
      rw [List.getElem?_set_self hlt] at hj
      simp at hj
      exact h.live i u k (by rw [hi, hj.1]) hk
    · rw [List.getElem?_set_ne hij] at hj
      exact h.live j u m hj hm
  · simp only at he ⊢
    rcases List.mem_or_eq_of_mem_set he with he | he
    · have := h.small e he
      omega
    · have := h.small _ (List.mem_of_getElem? hi)
      subst he
      simp at this ⊢
      omega
  · simp only at he
    rcases List.mem_or_eq_of_mem_set he with he | he
    · exact h.gone e he h0
    · subst he
      simp at h0

theorem St.new'_ok {s : St} (h : s.ok) {t : ByteArray} (hn : ∀ e ∈ s.M, e.1 ≠ t) (ht : t.size ≤ 64) (hl : s.C.length < 40) : (St.mk (s.C ++ [(t, 1)]) (s.M ++ [(t, s.C.length, s.c)]) (s.c + 1) (s.top + 1)).ok := by
  refine ⟨by simp; omega, fun e he => ?_, fun j u m hj hm => ?_, ?_, fun e he => ?_, fun e he => ?_, fun e he h0 => ?_⟩
  · simp only [List.mem_append, List.mem_singleton] at he
    rcases he with he | rfl
    · obtain ⟨m, hm, hc⟩ := h.key e he
      exact ⟨m, hm, by simp only; rw [List.getElem?_append_left (List.getElem?_eq_some_iff.1 hc).1]; exact hc⟩
    · exact ⟨1, by omega, by simp⟩
  · simp only at hj
    by_cases hjl : j < s.C.length
    · rw [List.getElem?_append_left hjl] at hj
      obtain ⟨b, hb⟩ := h.live j u m hj hm
      exact ⟨b, by simp [hb]⟩
    · rw [List.getElem?_append_right (by omega)] at hj
      have hj0 : j - s.C.length = 0 := by
        rcases Nat.eq_zero_or_pos (j - s.C.length) with h0 | h0
        · exact h0
        · rw [List.getElem?_eq_none (by simp; omega)] at hj
          cases hj
      rw [hj0] at hj
      simp at hj
      exact ⟨s.c, by simp [hj.1.symm]; right; omega⟩
  · rw [List.pairwise_append]
    exact ⟨h.apart, by simp, fun a ha b hb => by simp at hb; subst hb; exact hn a ha⟩
  · simp only [List.mem_append, List.mem_singleton] at he ⊢
    rcases he with he | rfl
    · have := h.born e he; omega
    · simp
  · simp only [List.mem_append, List.mem_singleton] at he ⊢
    rcases he with he | rfl
    · have := h.small e he; omega
    · exact ⟨ht, by simp <;> omega⟩
  · simp only [List.mem_append, List.mem_singleton] at he
    rcases he with he | rfl
    · exact h.gone e he h0
    · simp at h0

theorem infoChunk : (Tryd.prog.info? 54).map (fun i => (i.zero, i.size, i.bytes)) = some (some (.agg #[.string ByteArray.empty, .int .i64 0]), 2, 24) := by kernel_rfl

/-- a count is written into the row -/
theorem StoreIs.counted {w : World} {B base g : Nat} {s : St} {t : ByteArray} {i k r cap b : Nat} (hs : StoreIs w B base g s) (hk : 0 < k) (hi : s.C[i]? = some (t, k)) (hB : B ≤ b) (hb : b < base) (hbg : b ≠ g)
    (h0 : w.cell? ⟨g, 0, none⟩ = some (.slice (some ⟨r, 0, none⟩) s.C.length cap)) (hown : w.ownsRow base 54 2 (.slice (some ⟨r, 0, none⟩) s.C.length cap) s.C.length (chunksV s.C))
    (h1 : w.cell? ⟨g, 1, none⟩ = some (.map (some b))) (hm : w.heap[b]? = some (.map (ents s.M) s.c)) :
    StoreIs (w.setCell ⟨r, i * 2 + 1, none⟩ (.int .i64 ((k + 1 : Nat) : Int))) B base g { s with C := s.C.set i (t, k + 1), top := s.top + 1 } ∧ Below B w (w.setCell ⟨r, i * 2 + 1, none⟩ (.int .i64 ((k + 1 : Nat) : Int))) ∧ Kept w (w.setCell ⟨r, i * 2 + 1, none⟩ (.int .i64 ((k + 1 : Nat) : Int))) g := by
  obtain ⟨ho, hgr⟩ := hown.stored (i * 2 + 1) (.int .i64 ((k + 1 : Nat) : Int))
  have hr := hown.lt r rfl
  have hlo := hs.lo
  have hgg : g < w.heap.size := by omega
  obtain ⟨cur, hcur⟩ : ∃ cur, w.heap[r]? = some (.cells cur 54 (0, 0)) := by
    rcases hown.2 with ⟨h', _⟩ | ⟨g', cap', cur, h', _, hg, _⟩
    · simp at h'
    · simp only [Value.slice.injEq, Option.some.injEq, Addr.mk.injEq, and_true, true_and] at h'
      obtain ⟨rfl, rfl⟩ := h'
      exact ⟨cur, hg⟩
  refine ⟨⟨St.had_ok hs.ok hk hi, ⟨hlo.1, hlo.2.1, Nat.le_trans hlo.2.2 hgr.size⟩, ⟨.slice (some ⟨r, 0, none⟩) s.C.length cap, b, hB, hb, hbg, ?_, ?_, ?_, ?_⟩, fun o => ?_⟩, ?_, ?_⟩
  · rw [hgr.cell_far _ hgg (by simp; omega)]
    simpa using h0
  · rw [chunksV_setCount hi] at ho
    simpa using ho
  · rw [hgr.cell_far _ hgg (by simp; omega)]
    exact h1
  · rw [hgr.block b (by omega) (by simp; omega)]
    exact hm
  · rw [hgr.frozen_far _ hgg (by simp; omega)]
    exact hs.free o
  · exact (Below.refl _ _).grown hgr (by omega) (fun j hj => by cases hj; omega)
  · refine ⟨hgr.size, fun x cur' ty fr hx _ hty => ?_⟩
    have hxr : x ≠ r := fun e => by subst e; rw [hcur] at hx; cases hx; exact hty rfl
    rw [hgr.block x (Array.getElem?_eq_some_iff.1 hx).1 (by simp [hxr])]
    exact hx

theorem Kept.grown {w w' : World} {g r : Nat} {cur : Array Value} {fr : Nat × Nat} (hg : w.grownBy w' (some r)) (hr : w.heap[r]? = some (.cells cur 54 fr)) : Kept w w' g := by
  refine ⟨hg.size, fun x cur' ty fr' hx _ hty => ?_⟩
  have hxr : x ≠ r := fun e => by subst e; rw [hr] at hx; cases hx; exact hty rfl
  rw [hg.block x (Array.getElem?_eq_some_iff.1 hx).1 (by simp [hxr])]
  exact hx

/-- behind the append, the store of the slice and the new entry -/
theorem StoreIs.more {w w0 w1 : World} {B base g : Nat} {s : St} {t : ByteArray} {b r cap : Nat} {v : Value} (hs : StoreIs w B base g s) (ht : t.size ≤ 64) (hn : ∀ e ∈ s.M, e.1 ≠ t) (hl : s.C.length < 40) (hB : B ≤ b) (hb : b < base) (hbg : b ≠ g)
    (hown : w.ownsRow base 54 2 v s.C.length (chunksV s.C))
    (h1 : w.cell? ⟨g, 1, none⟩ = some (.map (some b))) (hm : w.heap[b]? = some (.map (ents s.M) s.c)) (h0 : (w.cell? ⟨g, 0, none⟩).isSome = true) (hw0 : Below w.heap.size w w0)
    (ho1 : w1.ownsRow base 54 2 (.slice (some ⟨r, 0, none⟩) (s.C.length + 1) cap) (s.C.length + 1) (chunksV s.C ++ [.string t, .int .i64 1])) (hgr : w0.grownBy w1 v.ownBlock) :
    let w2 := setBlock (w1.setCell ⟨g, 0, none⟩ (.slice (some ⟨r, 0, none⟩) (s.C.length + 1) cap)) b (.map (ents (s.M ++ [(t, s.C.length, s.c)])) (s.c + 1))
    StoreIs w2 B base g ⟨s.C ++ [(t, 1)], s.M ++ [(t, s.C.length, s.c)], s.c + 1, s.top + 1⟩ ∧ Below B w w2 ∧ Kept w w2 g := by
  have hlo := hs.lo
  have hgg : g < w.heap.size := by omega
  have hgg0 : g < w0.heap.size := Nat.lt_of_lt_of_le hgg hw0.size
  have hbb0 : b < w0.heap.size := Nat.lt_of_lt_of_le (by omega) hw0.size
  have hbb1 : b < w1.heap.size := Nat.lt_of_lt_of_le hbb0 hgr.size
  have hvb : ∀ k, v.ownBlock = some k → base ≤ k ∧ k < w.heap.size := hown.lt
  have hvg : some g ≠ v.ownBlock := fun e => by have := hvb g e.symm; omega
  have hvb' : some b ≠ v.ownBlock := fun e => by have := hvb b e.symm; omega
  have hr := ho1.lt r rfl
  have hrg : r ≠ g := by omega
  have hrb : r ≠ b := by omega
  obtain ⟨v2, hv2⟩ : ∃ v2, v2 = Value.slice (some ⟨r, 0, none⟩) (s.C.length + 1) cap := ⟨_, rfl⟩
  rw [← hv2] at ho1 ⊢
  have hc0 : (w1.cell? ⟨g, 0, none⟩).isSome = true := by rw [hgr.cell_far ⟨g, 0, none⟩ hgg0 hvg, hw0.cell (p := ⟨g, 0, none⟩) hgg]; exact h0
  have hc1 : w1.cell? ⟨g, 1, none⟩ = some (.map (some b)) := by rw [hgr.cell_far ⟨g, 1, none⟩ hgg0 hvg, hw0.cell (p := ⟨g, 1, none⟩) hgg]; exact h1
  have hf1 : ∀ o, w1.frozen? ⟨g, o, none⟩ = false := fun o => by rw [hgr.frozen_far ⟨g, o, none⟩ hgg0 hvg, hw0.frozen (p := ⟨g, o, none⟩) hgg]; exact hs.free o
  have hm1 : w1.heap[b]? = some (.map (ents s.M) s.c) := by rw [hgr.block b hbb0 hvb', hw0.block b (by omega)]; exact hm
  obtain ⟨w1', hw1'⟩ : ∃ w1', w1' = w1.setCell ⟨g, 0, none⟩ v2 := ⟨_, rfl⟩
  have hg1 : w1.grownBy w1' (some g) := by rw [hw1']; exact ⟨rfl, rfl, rfl, by simp, fun k _ hk => heap_setCell_other w1 ⟨g, 0, none⟩ k v2 (fun e => hk (by simp [e]))⟩
  have hm1' : w1'.heap[b]? = some (.map (ents s.M) s.c) := by rw [hg1.block b hbb1 (by simp; omega)]; exact hm1
  have hc0' : w1'.cell? ⟨g, 0, none⟩ = some v2 := by
    rw [hw1']
    obtain ⟨x, hx⟩ := Option.isSome_iff_exists.1 hc0
    exact World.cell?_setCell_same _ _ _ hx
  rw [← hw1']
  obtain ⟨w2, hw2⟩ : ∃ w2, w2 = setBlock w1' b (.map (ents (s.M ++ [(t, s.C.length, s.c)])) (s.c + 1)) := ⟨_, rfl⟩
  have hg2 : w1'.grownBy w2 (some b) := by rw [hw2]; exact ⟨rfl, rfl, rfl, by simp [setBlock], fun k _ hk => setBlock_far _ _ (fun e => hk (by simp [e]))⟩
  have hm2 : w2.heap[b]? = some (.map (ents (s.M ++ [(t, s.C.length, s.c)])) (s.c + 1)) := by rw [hw2]; exact setBlock_same hm1' _
  have hgg1 : g < w1.heap.size := Nat.lt_of_lt_of_le hgg0 hgr.size
  have hgg1' : g < w1'.heap.size := Nat.lt_of_lt_of_le hgg1 hg1.size
  show StoreIs (setBlock w1' b _) _ _ _ _ ∧ _
  rw [← hw2]
  have hsz : w.heap.size ≤ w2.heap.size := Nat.le_trans hw0.size (Nat.le_trans hgr.size (Nat.le_trans hg1.size hg2.size))
  refine ⟨⟨St.new'_ok hs.ok hn ht hl, ⟨hlo.1, hlo.2.1, Nat.le_trans hlo.2.2 hsz⟩, ⟨v2, b, hB, hb, hbg, ?_, ?_, ?_, hm2⟩, fun o => ?_⟩, ?_, ?_⟩
  · rw [hg2.cell_far ⟨g, 0, none⟩ hgg1' (by simp; omega)]; exact hc0'
  · rw [chunksV_append] at ho1
    have h3 := (ho1.kept hg1 (.inr (by rw [hv2]; simp [Value.ownBlock]; omega))).kept hg2 (.inr (by rw [hv2]; simp [Value.ownBlock]; omega))
    simpa using h3
  · rw [hg2.cell_far ⟨g, 1, none⟩ hgg1' (by simp; omega), hw1', World.cell?_setCell_other _ _ _ _ (by simp)]; exact hc1
  · rw [hg2.frozen_far ⟨g, o, none⟩ hgg1' (by simp; omega), hw1', World.frozen?_setCell]; exact hf1 o
  · have hBw : B ≤ w.heap.size := by omega
    have e1 : Below B w w0 := hw0.mono hBw
    have e2 : Below B w w1 := e1.grown hgr (Nat.le_trans hBw e1.size) (fun j hj => by have := hvb j hj; omega)
    have e3 : Below B w w1' := e2.grown hg1 (Nat.le_trans hBw e2.size) (fun j hj => by cases hj; omega)
    exact e3.grown hg2 (Nat.le_trans hBw e3.size) (fun j hj => by cases hj; omega)
  · refine ⟨hsz, fun x cur ty fr hx hxg hty => ?_⟩
    have hxw := (Array.getElem?_eq_some_iff.1 hx).1
    have hxb : x ≠ b := fun e => by subst e; rw [hm] at hx; cases hx
    have hxv : some x ≠ v.ownBlock := fun e => by
      rcases hown.2 with ⟨h', _⟩ | ⟨g', cap', cur', h', _, hg, _⟩
      · rw [h'] at e; simp [Value.ownBlock] at e
      · rw [h'] at e; simp [Value.ownBlock] at e; subst e; rw [hg] at hx; cases hx; exact hty rfl
    have hx0 : x < w0.heap.size := Nat.lt_of_lt_of_le hxw hw0.size
    have hx1 : x < w1.heap.size := Nat.lt_of_lt_of_le hx0 hgr.size
    rw [hg2.block x (Nat.lt_of_lt_of_le hx1 hg1.size) (by simp [hxb]), hg1.block x hx1 (by simp [hxg]), hgr.block x hx0 hxv, hw0.block x hxw]
    exact hx

/-- what holds behind the append -/
theorem StoreIs.facts {w w0 w1 : World} {B base g : Nat} {s : St} {t : ByteArray} {b r cap n : Nat} {v v0 : Value} (hs : StoreIs w B base g s) (hn : ∀ e ∈ s.M, e.1 ≠ t) (hb : b < base) (hbg : b ≠ g)
    (hown : w.ownsRow base 54 2 v s.C.length (chunksV s.C)) (h0 : w.cell? ⟨g, 0, none⟩ = some v0)
    (h1 : w.cell? ⟨g, 1, none⟩ = some (.map (some b))) (hm : w.heap[b]? = some (.map (ents s.M) s.c)) (hw0 : Below w.heap.size w w0) (hgr : w0.grownBy w1 v.ownBlock) :
    w1.cell? ⟨g, 0, none⟩ = some v0 ∧ w1.frozen? ⟨g, 0, none⟩ = false ∧ w1.cell? ⟨g, 1, none⟩ = some (.map (some b)) ∧
    (Instr.mapEntry 43 (.map (some b)) (.string t)).run Tryd.prog (w1.setCell ⟨g, 0, none⟩ (.slice (some ⟨r, 0, none⟩) (n + 1) cap)) = .ok (.tuple #[.int .i64 0, .int .i64 (s.c : Nat)]) (setBlock (w1.setCell ⟨g, 0, none⟩ (.slice (some ⟨r, 0, none⟩) (n + 1) cap)) b (.map (ents (s.M ++ [(t, 0, s.c)])) (s.c + 1))) ∧
    (Instr.entryStore 43 (.map (some b)) (.int .i64 (s.c : Nat)) (.int .i64 (n : Nat))).run Tryd.prog (setBlock (w1.setCell ⟨g, 0, none⟩ (.slice (some ⟨r, 0, none⟩) (n + 1) cap)) b (.map (ents (s.M ++ [(t, 0, s.c)])) (s.c + 1))) =
      .ok () (setBlock (w1.setCell ⟨g, 0, none⟩ (.slice (some ⟨r, 0, none⟩) (n + 1) cap)) b (.map (ents (s.M ++ [(t, n, s.c)])) (s.c + 1))) := by
  have hlo := hs.lo
  have hgg : g < w.heap.size := by omega
  have hgg0 : g < w0.heap.size := Nat.lt_of_lt_of_le hgg hw0.size
  have hbb0 : b < w0.heap.size := Nat.lt_of_lt_of_le (by omega) hw0.size
  have hvb : ∀ k, v.ownBlock = some k → base ≤ k ∧ k < w.heap.size := hown.lt
  have hvg : some g ≠ v.ownBlock := fun e => by have := hvb g e.symm; omega
  have hvb' : some b ≠ v.ownBlock := fun e => by have := hvb b e.symm; omega
  have hm1 : w1.heap[b]? = some (.map (ents s.M) s.c) := by rw [hgr.block b hbb0 hvb', hw0.block b (by omega)]; exact hm
  obtain ⟨v2, hv2⟩ : ∃ v2, v2 = Value.slice (some ⟨r, 0, none⟩) (n + 1) cap := ⟨_, rfl⟩
  rw [← hv2]
  obtain ⟨w1', hw1'⟩ : ∃ w1', w1' = w1.setCell ⟨g, 0, none⟩ v2 := ⟨_, rfl⟩
  have hm1' : w1'.heap[b]? = some (.map (ents s.M) s.c) := by rw [hw1', heap_setCell_other w1 ⟨g, 0, none⟩ b v2 hbg]; exact hm1
  rw [← hw1']
  refine ⟨by rw [hgr.cell_far ⟨g, 0, none⟩ hgg0 hvg, hw0.cell (p := ⟨g, 0, none⟩) hgg]; exact h0, by rw [hgr.frozen_far ⟨g, 0, none⟩ hgg0 hvg, hw0.frozen (p := ⟨g, 0, none⟩) hgg]; exact hs.free 0,
    by rw [hgr.cell_far ⟨g, 1, none⟩ hgg0 hvg, hw0.cell (p := ⟨g, 1, none⟩) hgg]; exact h1, entry_ents Tryd.underlying43 Tryd.underlying9 zeroInt hm1' hn, ?_⟩
  have h4 := store_ents (P := Tryd.prog) (mt := 43) (t := t) (setBlock_same hm1' (.map (ents (s.M ++ [(t, 0, s.c)])) (s.c + 1))) hs.ok.born n
  rw [setBlock_set] at h4
  exact h4

theorem below_drew_alloc (w : World) (o : Obj) : Below w.heap.size w (w.drew.alloc o) := (below_drewN' w 1).alloc (Nat.le_refl _) o

set_option maxRecDepth 100000 in
set_option maxHeartbeats 4000000 in
theorem put_walk (w : World) (B base g : Nat) (s : St) (t : ByteArray) (hs : StoreIs w B base g s) (ht0 : t.size ≤ 9223372036854775807) (htop : s.top < 1000000) :
    Calls Tryd.prog 10 #[.pointer (some ⟨g, 0, none⟩), .string t] w fun e w' => ∃ n fresh ev s', e = .returned (.tuple #[.int .i64 n, .bool fresh, ev]) ∧ PutRel s s' t n fresh ev ∧ StoreIs w' B base g s' ∧ Below B w w' ∧ Kept w w' g := by
  have HS := Lib.hid hs
  obtain ⟨v, b, hB, hb, hbg, h0, hown, h1, hm⟩ := hs.cells
  have hf0 := hs.free 0
  clear hs
  by_cases hlong : 64 < t.size
  · have q1 : decide ((64 : Int) < (t.size : Int)) = true := decide_eq_true (by omega)
    have HL := Lib.hid hlong
    clear hlong hown hm
    go_enter Tryd.func10, Tryd.ntmps10
    go_wp2_with fail
    go_ret3
    exact ⟨_, _, _, s, rfl, .long HL.out rfl, HS.out, Below.refl _ _, Kept.refl _ _⟩
  · have q1 : decide ((64 : Int) < (t.size : Int)) = false := decide_eq_false (by omega)
    rcases look_ents (t := t) Tryd.underlying43 Tryd.underlying9 zeroInt hm with ⟨hlk, hn⟩ | ⟨e, he, hlk, het⟩
    · have hnl := fun i k h => St.not_live HS.out.ok hn (t := t) i k h
      have HNL := Lib.hid hnl
      have HN := Lib.hid hn
      have hCl := HS.out.ok.len
      obtain ⟨va, cap, rfl⟩ : ∃ va cap, v = .slice va s.C.length cap := by
        rcases hown.2 with ⟨rfl, h⟩ | ⟨g', cap', cur, rfl, -⟩
        · exact ⟨none, 0, by rw [h]⟩
        · exact ⟨_, _, rfl⟩
      have HO := Lib.hid hown
      have HM := Lib.hid hm
      have H0 := Lib.hid h0
      have H1 := Lib.hid h1
      obtain ⟨n, hnn⟩ : ∃ n, n = s.C.length := ⟨_, rfl⟩
      rw [← hnn] at h0 hCl
      have HNN := Lib.hid hnn
      clear hnl hn hown hm
      by_cases hfull : n = 40
      · have q2 : ((n : Int) == 40) = true := beq_iff_eq.2 (by omega)
        clear hnn
        have HF := Lib.hid hfull
        clear hfull
        go_enter Tryd.func10, Tryd.ntmps10
        go_wp2_with fail
        go_ret3
        exact ⟨_, _, _, s, rfl, .full (by omega) HNL.out (by rw [← HNN.out]; exact HF.out) rfl, HS.out, Below.refl _ _, Kept.refl _ _⟩
      · have q2 : ((n : Int) == 40) = false := beq_eq_false_iff_ne.2 (by omega)
        have hlt : n < 40 := by omega
        clear hfull hnn
        obtain ⟨i0, hi0, hz0, hz1, hz2⟩ := info_parts infoChunk
        have hgw : g < w.heap.size := by have := HS.out.lo; omega
        have hbw : b < w.heap.size := by have := HS.out.lo; omega
        have hgbase : g < base := HS.out.lo.2.1
        have hbasew : base ≤ w.heap.size := HS.out.lo.2.2
        go_enter Tryd.func10, Tryd.ntmps10
        go_wp2_with fail
        go_region_law
          ((refine step_append_lies _ (by rfl) _ _ _ (by rfl) base 54 i0 _ 2 24 Tryd.underlying44 hi0 hz0 hz1 hz2 rfl (by omega) (.slice va n cap) n (chunksV s.C) (by rfl) (by rw [HNN.out]; exact (HO.out.alloc _).drew) ⟨w.heap.size, 0, none⟩ 1 1 [.string t, .int .i64 1] (by rfl) (by rfl) (World.news_of_block (cs := #[.string t, .int .i64 1]) (t := 54) (fr := (0, 0)) (heap_alloc_new w _)) (by simp [Value.oneCell']) (by omega) (by unfold maxLen; omega) (by omega) (by simp; omega) (w.heap.size + 1) (by simp) ?_
            intro r cap' w1 hown1 hgrow hat hlt1
            have hfacts := StoreIs.facts (r := r) (cap := cap') (n := n) HS.out HN.out hb hbg HO.out H0.out H1.out HM.out (below_drew_alloc w _) (by rw [← HNN.out]; exact hgrow)
            have hw0 := hfacts.1
            rw [← HNN.out] at hw0
            have hw1 := hfacts.2.1
            have hw2 := hfacts.2.2.1
            have hw3 := hfacts.2.2.2.1
            have hw4 := hfacts.2.2.2.2
            clear hfacts))
        all_goals
          have hmore := StoreIs.more (r := r) (cap := cap') HS.out (by omega) HN.out (by have := HNN.out; omega) hB hb hbg HO.out H1.out HM.out (by rw [H0.out]; rfl) (below_drew_alloc w _) (by rw [← HNN.out]; exact hown1) (by rw [← HNN.out]; exact hgrow)
          simp only at hmore
          have HMORE := Lib.hid hmore
          clear hmore hown1 hgrow hat hw0 hw1 hw2 hw3 hw4
          go_wp2_with fail
          go_ret3
          refine ⟨(n : Int), true, .nilIface, _, rfl, by rw [HNN.out]; exact .new (by omega) HNL.out (by have := HNN.out; omega) rfl, ?_⟩
          have h := HMORE.out
          rw [← HNN.out] at h ⊢
          exact h
    · obtain ⟨k, hk, hi⟩ := HS.out.ok.key e he
      rw [het] at hi
      obtain ⟨i, hid⟩ : ∃ i, i = e.2.1 := ⟨_, rfl⟩
      rw [← hid] at hi hlk
      have hilt : i < s.C.length := (List.getElem?_eq_some_iff.1 hi).1
      obtain ⟨r, cap, rfl, hbr, hrw⟩ := hown.form (by omega)
      have hcc := hown.cellAt (i * 2 + 1) (by omega)
      rw [chunksV_count hi] at hcc
      have hfr := hown.frozenAt (i * 2 + 1)
      have hkt := (HS.out.ok.small _ (List.mem_of_getElem? hi)).2
      have hCl := HS.out.ok.len
      have hpost := StoreIs.counted HS.out hk hi hB hb hbg h0 hown h1 hm
      have HP := Lib.hid hpost
      have HI := Lib.hid hi
      have HO := Lib.hid hown
      simp only at hkt hcc
      obtain ⟨n, hn⟩ : ∃ n, n = s.C.length := ⟨_, rfl⟩
      rw [← hn] at h0 hilt hCl
      clear hpost hi hown hm het he hid hn
      go_enter Tryd.func10, Tryd.ntmps10
      go_wp2_with fail
      go_ret3
      refine ⟨_, _, _, _, rfl, .had i k (by omega) hk HI.out rfl, ?_⟩
      have hP := HP.out
      simpa using hP

end Go.Proofs.YtaoekllajnnbjaaDoor
