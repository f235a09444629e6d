/- The walk of Drop. -/
import Derived.Test.YtaoekllajnnbjaaDoorDedup4h
namespace Go.Proofs.YtaoekllajnnbjaaDoor
open Go.RowKit Go.MapKept
open Go.ChangeMaps (setBlock)

theorem St.less_ok {s : St} (h : s.ok) {t : ByteArray} {i k m : Nat} (hk : 0 < k) (hm : 0 < m) (hmk : m ≤ k) (hi : s.C[i]? = some (t, k)) : (St.mk (s.C.set i (t, m)) s.M s.c s.top).ok := by
  have hlt : i < s.C.length := (List.getElem?_eq_some_iff.1 hi).1
  refine ⟨by simpa using h.len, fun e he => ?_, fun j u q hj hq => ?_, h.apart, h.born, fun e he => ?_, fun e he h0 => ?_⟩
  · obtain ⟨q, hq, hc⟩ := h.key e he
    by_cases hj : i = e.2.1
    · rw [← hj, hi] at hc
      simp at hc
      exact ⟨m, hm, by simp only; rw [← hj, List.getElem?_set_self hlt, hc.1]⟩
    · exact ⟨q, hq, by simp only; rw [List.getElem?_set_ne hj]; exact hc⟩
  · simp only at hj
    by_cases hij : i = j
    · subst hij
      rw [List.getElem?_set_self hlt] at hj
      simp at hj
      exact h.live i u k (by rw [hi, hj.1]) hk
    · rw [List.getElem?_set_ne hij] at hj
      exact h.live j u q hj hq
  · simp only at he ⊢
    rcases List.mem_or_eq_of_mem_set he with he | he
    · exact h.small e he
    · have := h.small _ (List.mem_of_getElem? hi)
      subst he
      simp at this ⊢
      omega
  · simp only at he
    rcases List.mem_or_eq_of_mem_set he with he | he
    · exact h.gone e he h0
    · subst he
      simp at h0
      omega

theorem eraseIdx_mem {α : Type} {l : List α} {j : Nat} {x e : α} (hj : l[j]? = some x) (he : e ∈ l) (hne : e ≠ x) : e ∈ l.eraseIdx j := by
  induction l generalizing j with
  | nil => simp at he
  | cons a l ih =>
    rcases j with _ | j
    · simp at hj
      subst hj
      simp at he
      rcases he with rfl | he
      · exact absurd rfl hne
      · simpa using he
    · simp at hj he ⊢
      rcases he with rfl | he
      · exact .inl rfl
      · exact .inr (ih hj he)

theorem St.none_ok {s : St} (h : s.ok) {t : ByteArray} {i k j b : Nat} (hk : 0 < k) (hi : s.C[i]? = some (t, k)) (hj : s.M[j]? = some (t, i, b)) : (St.mk (s.C.set i (ByteArray.empty, 0)) (s.M.eraseIdx j) s.c s.top).ok := by
  have hlt : i < s.C.length := (List.getElem?_eq_some_iff.1 hi).1
  have hp := h.apart
  rw [List.pairwise_iff_getElem] at hp
  obtain ⟨hjl, hje⟩ := List.getElem?_eq_some_iff.1 hj
  have hother : ∀ e ∈ s.M.eraseIdx j, e.1 ≠ t := by
    intro e he
    rw [List.mem_eraseIdx_iff_getElem] at he
    obtain ⟨q, hq, hne, hqe⟩ := he
    intro e'
    rcases Nat.lt_trichotomy q j with h1 | h1 | h1
    · exact hp q j hq hjl h1 (by rw [hqe, hje]; exact e')
    · omega
    · exact hp j q hjl hq h1 (by rw [hqe, hje]; exact e'.symm)
  refine ⟨by simpa using h.len, fun e he => ?_, fun q u m hq hm => ?_, h.apart.sublist (List.eraseIdx_sublist ..), fun e he => h.born e (List.mem_of_mem_eraseIdx he), fun e he => ?_, fun e he h0 => ?_⟩
  · obtain ⟨m, hm, hc⟩ := h.key e (List.mem_of_mem_eraseIdx he)
    have hij : i ≠ e.2.1 := fun e' => hother e he (by rw [← e', hi] at hc; simp at hc; exact hc.1.symm)
    exact ⟨m, hm, by simp only; rw [List.getElem?_set_ne hij]; exact hc⟩
  · simp only at hq
    by_cases hiq : i = q
    · subst hiq
      rw [List.getElem?_set_self hlt] at hq
      simp at hq
      omega
    · rw [List.getElem?_set_ne hiq] at hq
      obtain ⟨b', hb'⟩ := h.live q u m hq hm
      exact ⟨b', eraseIdx_mem hj hb' (fun e' => hiq (by simp at e'; exact e'.2.1.symm))⟩
  · simp only at he ⊢
    rcases List.mem_or_eq_of_mem_set he with he | he
    · exact h.small e he
    · subst he
      simp
  · simp only at he
    rcases List.mem_or_eq_of_mem_set he with he | he
    · exact h.gone e he h0
    · subst he
      rfl

set_option maxHeartbeats 1000000 in
theorem drop_no (w : World) (B base g : Nat) (s : St) (id c : Int) (hid : -9223372036854775808 ≤ id ∧ id ≤ 9223372036854775807) (hs : StoreIs w B base g s) (hi : NoChunk s id c) :
    Calls Tryd.prog 8 #[.pointer (some ⟨g, 0, none⟩), .int .i64 id] w fun e w' => e = .returned (.iface 48 (.int .i64 c)) ∧ w = w' := by
  have HS := Lib.hid hs
  have HI := Lib.hid hi
  clear hs hi
  go_enter Tryd.func8, Tryd.ntmps8
  go_wp2_with fail
  refine (dget_no _ B base g s id c hid HS.out HI.out).mono ?_
  rintro _ w1 ⟨rfl, rfl⟩
  go_wp2_with fail
  go_ret
  exact ⟨rfl, rfl⟩

/-- a less count is written into the row -/
theorem StoreIs.recount {w : World} {B base g : Nat} {s : St} {t : ByteArray} {i k m r cap b : Nat} (hs : StoreIs w B base g s) (hk : 0 < k) (hm0 : 0 < m) (hmk : m ≤ k) (hi : s.C[i]? = some (t, k)) (hB : B ≤ b) (hb : b < base) (hbg : b ≠ g)
    (h0 : w.cell? ⟨g, 0, none⟩ = some (.slice (some ⟨r, 0, none⟩) s.C.length cap)) (hown : w.ownsRow base 54 2 (.slice (some ⟨r, 0, none⟩) s.C.length cap) s.C.length (chunksV s.C))
    (h1 : w.cell? ⟨g, 1, none⟩ = some (.map (some b))) (hm : w.heap[b]? = some (.map (ents s.M) s.c)) :
    StoreIs (w.setCell ⟨r, i * 2 + 1, none⟩ (.int .i64 ((m : Nat) : Int))) B base g { s with C := s.C.set i (t, m) } ∧ Below B w (w.setCell ⟨r, i * 2 + 1, none⟩ (.int .i64 ((m : Nat) : Int))) ∧ Kept w (w.setCell ⟨r, i * 2 + 1, none⟩ (.int .i64 ((m : Nat) : Int))) g := by
  obtain ⟨ho, hgr⟩ := hown.stored (i * 2 + 1) (.int .i64 ((m : Nat) : Int))
  have hr := hown.lt r rfl
  have hlo := hs.lo
  have hgg : g < w.heap.size := by omega
  obtain ⟨cur, hcur⟩ : ∃ cur, w.heap[r]? = some (.cells cur 54 (0, 0)) := by
    rcases hown.2 with ⟨h', _⟩ | ⟨g', cap', cur, h', _, hg, _⟩
    · simp at h'
    · simp only [Value.slice.injEq, Option.some.injEq, Addr.mk.injEq, and_true, true_and] at h'
      obtain ⟨rfl, rfl⟩ := h'
      exact ⟨cur, hg⟩
  refine ⟨⟨St.less_ok hs.ok hk hm0 hmk hi, ⟨hlo.1, hlo.2.1, Nat.le_trans hlo.2.2 hgr.size⟩, ⟨.slice (some ⟨r, 0, none⟩) s.C.length cap, b, hB, hb, hbg, ?_, ?_, ?_, ?_⟩, fun o => ?_⟩, ?_, ?_⟩
  · rw [hgr.cell_far _ hgg (by simp; omega)]
    simpa using h0
  · rw [chunksV_setCount hi] at ho
    simpa using ho
  · rw [hgr.cell_far _ hgg (by simp; omega)]
    exact h1
  · rw [hgr.block b (by omega) (by simp; omega)]
    exact hm
  · rw [hgr.frozen_far _ hgg (by simp; omega)]
    exact hs.free o
  · exact (Below.refl _ _).grown hgr (by omega) (fun j hj => by cases hj; omega)
  · refine ⟨hgr.size, fun x cur' ty fr hx _ hty => ?_⟩
    have hxr : x ≠ r := fun e => by subst e; rw [hcur] at hx; cases hx; exact hty rfl
    rw [hgr.block x (Array.getElem?_eq_some_iff.1 hx).1 (by simp [hxr])]
    exact hx


set_option maxHeartbeats 1000000 in
theorem drop_more (w : World) (B base g : Nat) (s : St) (i m : Nat) (t : ByteArray) (hs : StoreIs w B base g s) (htop : s.top < 1000000) (hm : 0 < m) (hi : s.C[i]? = some (t, m + 1)) :
    Calls Tryd.prog 8 #[.pointer (some ⟨g, 0, none⟩), .int .i64 (i : Nat)] w fun e w' => e = .returned .nilIface ∧ StoreIs w' B base g { s with C := s.C.set i (t, m) } ∧ Below B w w' ∧ Kept w w' g := by
  have HS := Lib.hid hs
  have HI := Lib.hid hi
  obtain ⟨v, b, hB, hb, hbg, h0, hown, h1, hmm⟩ := hs.cells
  have H0 := Lib.hid h0
  have H1 := Lib.hid h1
  have HM := Lib.hid hmm
  have hml : m < 1000000 := by have := (hs.ok.small _ (List.mem_of_getElem? hi)).2; simp at this; omega
  clear hs hi h0 hown h1 hmm
  go_enter Tryd.func8, Tryd.ntmps8
  go_wp2_with fail
  refine (dget_ok _ B base g s i (m + 1) t HS.out HI.out (by omega)).mono ?_
  rintro _ w1 ⟨⟨r, rfl, cap, h0, hown⟩, rfl⟩
  have hlt := (List.getElem?_eq_some_iff.1 HI.out).1
  have hcc := hown.cellAt (i * 2 + 1) (by omega)
  rw [chunksV_count HI.out] at hcc
  simp only at hcc
  have hfr := hown.frozenAt (i * 2 + 1)
  have HP := Lib.hid (StoreIs.recount (m := m) HS.out (by omega) hm (by omega) HI.out hB hb hbg h0 hown H1.out HM.out)
  have q1 : ((m : Int) == 0) = false := beq_eq_false_iff_ne.2 (by omega)
  clear h0 hown hlt
  go_wp2_with fail
  go_ret
  exact ⟨rfl, HP.out⟩


/-- 'delete(m, k)' AT A STEP OF A REGION THAT DRAWS -/
theorem step_delete {P : Program} {ops : Array Oper} {o : Oper} {a : Act} {w w' : World} {K : Act → World → Prop} {Q : Exit → Act → World → Prop} {E : Prop} {t k : TypeId} {mv kv : Value}
    (hg : o.guard = none) (m x : Operand) (hop : o.op = Op.call { callee := Callee.builtin Builtin.delete, args := #[m, x], argTypes := #[t, k] }) (hm : a.eval m = mv) (hx : a.eval x = kv)
    (hrun : (Builtin.delete_ #[t, k] o.type #[mv, kv]).run P w = .ok (.tuple #[]) w') (hK : K (a.put o.dst (.tuple #[])) w') :
    if Region.wanted o (yielded ops a.tmps) = true then Oper.wp P o a w K Q else E := by
  have hw : Region.wanted o (yielded ops a.tmps) = true := by simp [Region.wanted, hg]
  rw [if_pos hw]
  unfold Oper.wp
  simp [execOp, hop, resolve, invoke, builtin, hm, hx, hrun, Result.andThen]
  exact hK


theorem StoreIs.dropped {w w2 : World} {B base g : Nat} {s : St} {t : ByteArray} {i j b b' r cap : Nat} (hs : StoreIs w B base g s) (hi : s.C[i]? = some (t, 1)) (hj : s.M[j]? = some (t, i, b')) (hB : B ≤ b) (hb : b < base) (hbg : b ≠ g)
    (h0 : w.cell? ⟨g, 0, none⟩ = some (.slice (some ⟨r, 0, none⟩) s.C.length cap)) (hown : w.ownsRow base 54 2 (.slice (some ⟨r, 0, none⟩) s.C.length cap) s.C.length (chunksV s.C))
    (h1 : w.cell? ⟨g, 1, none⟩ = some (.map (some b))) (hm : w.heap[b]? = some (.map (ents s.M) s.c))
    (hw2 : w2 = setBlock ((w.setCell ⟨r, i * 2 + 1, none⟩ (.int .i64 0)).drew) b (.map (ents (s.M.eraseIdx j)) s.c)) (hg2 : ((w.setCell ⟨r, i * 2 + 1, none⟩ (.int .i64 0)).drew).grownBy w2 (some b)) :
    StoreIs (w2.setCell ⟨r, i * 2, none⟩ (.string ByteArray.empty)) B base g { s with C := s.C.set i (ByteArray.empty, 0), M := s.M.eraseIdx j } ∧ Below B w (w2.setCell ⟨r, i * 2, none⟩ (.string ByteArray.empty)) ∧ Kept w (w2.setCell ⟨r, i * 2, none⟩ (.string ByteArray.empty)) g := by
  have hlo := hs.lo
  have hr := hown.lt r rfl
  have hrb : r ≠ b := by omega
  have hrg : r ≠ g := by omega
  have hlt : i < s.C.length := (List.getElem?_eq_some_iff.1 hi).1
  obtain ⟨o1, ga⟩ := hown.stored (i * 2 + 1) (.int .i64 ((0 : Nat) : Int))
  rw [chunksV_setCount hi] at o1
  have ga' : w.grownBy ((w.setCell ⟨r, i * 2 + 1, none⟩ (.int .i64 0)).drew) (some r) := ⟨ga.1, ga.2, ga.3, ga.4, ga.5⟩
  have o1' : ((w.setCell ⟨r, i * 2 + 1, none⟩ (.int .i64 0)).drew).ownsRow base 54 2 (.slice (some ⟨r, 0, none⟩) s.C.length cap) s.C.length (chunksV (s.C.set i (t, 0))) := o1
  have hmm : ((w.setCell ⟨r, i * 2 + 1, none⟩ (.int .i64 0)).drew).heap[b]? = some (.map (ents s.M) s.c) := (ga'.block b (by omega) (by simp; omega)).trans hm
  have hm2 : w2.heap[b]? = some (.map (ents (s.M.eraseIdx j)) s.c) := by rw [hw2]; exact setBlock_same hmm _
  clear hw2 o1 ga
  generalize (w.setCell ⟨r, i * 2 + 1, none⟩ (.int .i64 0)).drew = w1 at *
  have o2 := o1'.kept hg2 (.inr (by simp [Value.ownBlock]; omega))
  obtain ⟨o3, gc⟩ := o2.stored (i * 2) (.string ByteArray.empty)
  rw [chunksV_setText (e := (t, 0)) (by rw [List.getElem?_set_self hlt])] at o3
  simp only [List.set_set] at o3
  generalize w2.setCell ⟨r, i * 2, none⟩ (.string ByteArray.empty) = w3 at *
  have hg0 : g < w.heap.size := by omega
  have hg1 : g < w1.heap.size := Nat.lt_of_lt_of_le hg0 ga'.size
  have hg2' : g < w2.heap.size := Nat.lt_of_lt_of_le hg1 hg2.size
  have hb1 : b < w1.heap.size := Nat.lt_of_lt_of_le (by omega) ga'.size
  have hb2 : b < w2.heap.size := Nat.lt_of_lt_of_le hb1 hg2.size
  have hcell : ∀ o, w3.cell? ⟨g, o, none⟩ = w.cell? ⟨g, o, none⟩ := fun o => by
    rw [gc.cell_far _ hg2' (by simp; omega), hg2.cell_far _ hg1 (by simp; omega), ga'.cell_far _ hg0 (by simp; omega)]
  have hfr : ∀ o, w3.frozen? ⟨g, o, none⟩ = w.frozen? ⟨g, o, none⟩ := fun o => by
    rw [gc.frozen_far _ hg2' (by simp; omega), hg2.frozen_far _ hg1 (by simp; omega), ga'.frozen_far _ hg0 (by simp; omega)]
  have hsz : w.heap.size ≤ w3.heap.size := Nat.le_trans ga'.size (Nat.le_trans hg2.size gc.size)
  refine ⟨⟨St.none_ok hs.ok (k := 1) (by omega) hi hj, ⟨hlo.1, hlo.2.1, Nat.le_trans hlo.2.2 hsz⟩, ⟨.slice (some ⟨r, 0, none⟩) s.C.length cap, b, hB, hb, hbg, ?_, ?_, ?_, ?_⟩, fun o => by rw [hfr]; exact hs.free o⟩, ?_, ?_⟩
  · rw [hcell]; simpa using h0
  · simpa using o3
  · rw [hcell]; exact h1
  · rw [gc.block b hb2 (by simp; omega)]; exact hm2
  · have e1 : Below B w w1 := (Below.refl _ _).grown ga' (by omega) (fun j hj => by cases hj; omega)
    have e2 : Below B w w2 := e1.grown hg2 (Nat.le_trans (by omega) e1.size) (fun j hj => by cases hj; omega)
    exact e2.grown gc (Nat.le_trans (by omega) e2.size) (fun j hj => by cases hj; omega)
  · obtain ⟨cur, hcur⟩ : ∃ cur, w.heap[r]? = some (.cells cur 54 (0, 0)) := by
      rcases hown.2 with ⟨h', _⟩ | ⟨g', cap', cur, h', _, hg, _⟩
      · simp at h'
      · simp only [Value.slice.injEq, Option.some.injEq, Addr.mk.injEq, and_true, true_and] at h'
        obtain ⟨rfl, rfl⟩ := h'
        exact ⟨cur, hg⟩
    refine ⟨hsz, fun x cur' ty fr hx hxg hty => ?_⟩
    have hxw := (Array.getElem?_eq_some_iff.1 hx).1
    have hxr : x ≠ r := fun e => by subst e; rw [hcur] at hx; cases hx; exact hty rfl
    have hxb : x ≠ b := fun e => by subst e; rw [hm] at hx; cases hx
    have hx1 := Nat.lt_of_lt_of_le hxw ga'.size
    rw [gc.block x (Nat.lt_of_lt_of_le hx1 hg2.size) (by simp [hxr]), hg2.block x hx1 (by simp [hxb]), ga'.block x hxw (by simp [hxr])]
    exact hx

set_option maxRecDepth 100000 in
set_option maxHeartbeats 2000000 in
theorem drop_last (w : World) (B base g : Nat) (s : St) (i : Nat) (t : ByteArray) (hs : StoreIs w B base g s) (hi : s.C[i]? = some (t, 1)) :
    Calls Tryd.prog 8 #[.pointer (some ⟨g, 0, none⟩), .int .i64 (i : Nat)] w fun e w' => e = .returned .nilIface ∧ (∃ j b, s.M[j]? = some (t, i, b) ∧ StoreIs w' B base g { s with C := s.C.set i (ByteArray.empty, 0), M := s.M.eraseIdx j }) ∧ Below B w w' ∧ Kept w w' g := by
  have HS := Lib.hid hs
  have HI := Lib.hid hi
  obtain ⟨v, b, hB, hb, hbg, h0, hown, h1, hmm⟩ := hs.cells
  have H0 := Lib.hid h0
  have HM := Lib.hid hmm
  have hbase := hs.lo.2.2
  clear hs hi h0 hown hmm
  go_enter Tryd.func8, Tryd.ntmps8
  go_wp2_with fail
  refine (dget_ok _ B base g s i 1 t HS.out HI.out (by omega)).mono ?_
  rintro _ w1 ⟨⟨r, rfl, cap, h0, hown⟩, rfl⟩
  have hlt := (List.getElem?_eq_some_iff.1 HI.out).1
  have hcc := hown.cellAt (i * 2 + 1) (by omega)
  have hct := hown.cellAt (i * 2) (by omega)
  rw [chunksV_count HI.out] at hcc
  rw [chunksV_text HI.out] at hct
  simp only [Int.natCast_one] at hcc
  simp only at hct
  have hfr := hown.frozenAt (i * 2 + 1)
  have hft := hown.frozenAt (i * 2)
  have hr := hown.lt r rfl
  have hrg : r ≠ g := by have := HS.out.lo; omega
  have hrb : r ≠ b := by omega
  have HO := Lib.hid hown
  have hown0 := hown
  have H00 := Lib.hid h0
  clear h0 hown hlt
  go_wp2_with fail
  have hm1 : ((w.setCell ⟨r, i * 2 + 1, none⟩ (.int .i64 0)).drew).heap[b]? = some (.map (ents s.M) s.c) := (heap_setCell_other w ⟨r, i * 2 + 1, none⟩ b (.int .i64 0) (Ne.symm hrb)).trans HM.out
  have hkey : ∃ e ∈ s.M, e.1 = t := by obtain ⟨b', hb'⟩ := HS.out.ok.live i t 1 HI.out (by omega); exact ⟨_, hb', rfl⟩
  obtain ⟨j, e, hrun, hje, het⟩ := delete_ents (P := Tryd.prog) (mt := 43) (kt := 9) Tryd.underlying43 Tryd.underlying9 hm1 hkey 0
  have HRUN := Lib.hid hrun
  have HM1 := Lib.hid hm1
  obtain ⟨w2, hw2⟩ : ∃ w2, w2 = setBlock ((w.setCell ⟨r, i * 2 + 1, none⟩ (.int .i64 0)).drew) b (.map (ents (s.M.eraseIdx j)) s.c) := ⟨_, rfl⟩
  rw [← hw2] at HRUN
  have hg2 : ((w.setCell ⟨r, i * 2 + 1, none⟩ (.int .i64 0)).drew).grownBy w2 (some b) := by rw [hw2]; exact ⟨rfl, rfl, rfl, by simp [setBlock], fun k _ hk => setBlock_far _ _ (fun e => hk (by simp [e]))⟩
  have hrs : r < ((w.setCell ⟨r, i * 2 + 1, none⟩ (.int .i64 0)).drew).heap.size := by have := (hown0.stored (i * 2 + 1) (.int .i64 0)).2.size; exact Nat.lt_of_lt_of_le hr.2 this
  have hc2 : w2.cell? ⟨r, i * 2, none⟩ = some (.string t) := by rw [hg2.cell_far _ hrs (by simp; omega)]; exact (World.cell?_setCell_other _ _ _ _ (by simp)).trans hct
  have hf2 : w2.frozen? ⟨r, i * 2, none⟩ = false := by rw [hg2.frozen_far _ hrs (by simp; omega)]; exact (World.frozen?_setCell _ _ _ _).trans hft
  have HW2 := Lib.hid hw2
  have HG2 := Lib.hid hg2
  clear hm1 hkey hrun hw2 hg2 hown0
  go_region_law (refine step_delete (by rfl) _ _ (by rfl) (by rfl) (by rfl) HRUN.out ?_)
  all_goals
    go_wp2_with fail
    go_ret
    obtain ⟨eid, het2⟩ : ∃ b', e = (t, i, b') := by
      obtain ⟨k, hk, hc⟩ := HS.out.ok.key e (List.mem_of_getElem? hje)
      rw [het] at hc
      have h1 := St.one HS.out.ok hc HI.out hk (by omega)
      exact ⟨e.2.2, by rw [← het, ← h1]⟩
    subst het2
    have hd := StoreIs.dropped HS.out HI.out hje hB hb hbg H00.out HO.out h1 HM.out HW2.out HG2.out
    exact ⟨rfl, ⟨j, eid, hje, hd.1⟩, hd.2⟩

end Go.Proofs.YtaoekllajnnbjaaDoor
