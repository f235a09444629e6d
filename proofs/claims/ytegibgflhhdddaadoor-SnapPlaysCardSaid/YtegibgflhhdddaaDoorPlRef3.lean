/- The reference's planes: With, New. -/
import Derived.Test.YtegibgflhhdddaaDoorPlRef2
namespace Go.Proofs.YtegibgflhhdddaaDoor
open Go.RowKit
variable {z : Nat}

theorem fill2 {w : World} {g : Nat} {T : TypeId} {a0 a1 : Value} (h : w.heap[g]? = some (.cells #[a0, a1] T (0, 0))) (x0 x1 : Value) :
    ((w.setCell ⟨g, 0, none⟩ x0).setCell ⟨g, 1, none⟩ x1).heap[g]? = some (.cells #[x0, x1] T (0, 0)) := by
  have h0 := heap_setCell_same w g 0 _ T x0 h
  have h1 := heap_setCell_same _ g 1 _ T x1 h0
  rw [h1]
  rfl

set_option maxRecDepth 100000 in
set_option maxHeartbeats 2000000 in
theorem rwith_walk (w : World) (v1 v2 p : Value) (L : List Int) (s : Vol) (k x : Nat) (f : Bool) (h1 : IV z w v1 L) (h2 : SR z w v2 s) (hk : k < 4) (hp : IV z w p (if f then rowOf x else [])) (hf : f = false → p = .slice none 0 0) (hz : z ≤ w.heap.size) :
    Calls Tryd.prog 23 #[.agg #[v1, v2], .int .i64 (k : Nat), p] w fun e w' => (∃ u2, e = .returned (.agg #[v1, u2]) ∧ SR z w' u2 (s.setP k x f) ∧ IV z w' v1 L) ∧ Below w.heap.size w w' := by
  obtain ⟨a1, n1, m1, rfl, -⟩ := h1.sl
  obtain ⟨b, cap, rfl⟩ := h2.sl
  obtain ⟨pa, pn, pc, rfl, -⟩ := hp.sl
  have hb0 : Below w.heap.size w ((w.alloc (.cells #[.slice a1 n1 m1, .slice (some ⟨b, 0, none⟩) 4 cap] 46)).alloc (.cells #[.slice none 0 0, .slice none 0 0] 46)) := ((Below.refl w.heap.size w).alloc (Nat.le_refl _) _).alloc (by simp) _
  have hh0 : ((w.alloc (.cells #[.slice a1 n1 m1, .slice (some ⟨b, 0, none⟩) 4 cap] 46)).alloc (.cells #[.slice none 0 0, .slice none 0 0] 46)).heap[w.heap.size]? = some (.cells #[.slice a1 n1 m1, .slice (some ⟨b, 0, none⟩) 4 cap] 46 (0, 0)) := by
    rw [Below.heap_alloc _ _ _ (by simp)]
    exact heap_alloc_new w _
  have hh1 := heap_alloc_new (w.alloc (.cells #[.slice a1 n1 m1, .slice (some ⟨b, 0, none⟩) 4 cap] 46)) (.cells #[.slice none 0 0, .slice none 0 0] 46)
  obtain ⟨w0, hw0⟩ : ∃ x, x = (w.alloc (.cells #[.slice a1 n1 m1, .slice (some ⟨b, 0, none⟩) 4 cap] 46)).alloc (.cells #[.slice none 0 0, .slice none 0 0] 46) := ⟨_, rfl⟩
  rw [← hw0] at hb0 hh0 hh1
  rw [World.size_alloc] at hh1
  obtain ⟨g, hg⟩ : ∃ g, g = w.heap.size := ⟨_, rfl⟩
  rw [← hg] at hh0 hh1
  have H1 := Lib.hid (h1.below hb0)
  have H2 := Lib.hid (h2.below hb0)
  have HP := Lib.hid (hp.below hb0)
  have HB0 := Lib.hid hb0
  have HH0 := Lib.hid hh0
  have HH1 := Lib.hid hh1
  have HG := Lib.hid hg
  have HW0 := Lib.hid hw0
  have HF := Lib.hid hf
  have hz0 : z ≤ w0.heap.size := Nat.le_trans hz hb0.size
  have hgw : g + 1 < w0.heap.size := lt_of_heap hh1
  obtain ⟨⟨i0, i1⟩, -⟩ := cells2 hh0
  obtain ⟨rv, hrv, hrs⟩ : ∃ rv : Nat → Value, (∀ j, j < 4 → w0.cell? ⟨b, j, none⟩ = some (rv j)) ∧ ∀ j, j < 4 → (rv j).oneCell' = true := by
    obtain ⟨b', cap', cs, fr, e1, e2, e3, e4, e5, e6⟩ := H2.out
    cases e1
    obtain ⟨r0, k0, j0, -⟩ := e6 0 (by omega)
    obtain ⟨r1, k1, j1, -⟩ := e6 1 (by omega)
    obtain ⟨r2, k2, j2, -⟩ := e6 2 (by omega)
    obtain ⟨r3, k3, j3, -⟩ := e6 3 (by omega)
    have hone : ∀ v M, IV z w0 v M → v.oneCell' = true := fun v M h => by obtain ⟨a, n, c, rfl, -⟩ := h.sl; rfl
    refine ⟨fun j => match j with | 0 => r0 | 1 => r1 | 2 => r2 | _ => r3, fun j hj => ?_, fun j hj => ?_⟩
    · rcases j with _ | _ | _ | _ | j <;> first | exact k0 | exact k1 | exact k2 | exact k3 | omega
    · rcases j with _ | _ | _ | _ | j <;> first | exact hone _ _ j0 | exact hone _ _ j1 | exact hone _ _ j2 | exact hone _ _ j3 | omega
  have HRV := Lib.hid hrv
  have HNEWS := Lib.hid (show ∀ j u, [rv 0, rv 1, rv 2, rv 3][j]? = some u → w0.cell? ⟨b, 0 + j, none⟩ = some u from fun j u hj => by
    rw [Nat.zero_add]
    rcases j with _ | _ | _ | _ | j <;> first | (simp at hj; subst hj; exact hrv _ (by omega)) | simp at hj)
  have HONE := Lib.hid (show ∀ u ∈ [rv 0, rv 1, rv 2, rv 3], u.oneCell' = true from fun u hu => by
    simp only [List.mem_cons, List.not_mem_nil, or_false] at hu
    rcases hu with rfl | rfl | rfl | rfl
    · exact hrs 0 (by omega)
    · exact hrs 1 (by omega)
    · exact hrs 2 (by omega)
    · exact hrs 3 (by omega))
  have HOWN := Lib.hid (World.ownsRow_nil w0 w0.heap.size 25 1)
  have HN1 := Lib.hid (show 0 + 4 ≤ maxLen by unfold maxLen; omega)
  have hk0 : (0 : Int) ≤ (k : Int) := by omega
  have hk1 : (k : Int) < 4 := by omega
  clear h1 h2 hp hf hb0 hh0 hh1 hg hw0 hrv hrs hz
  go_enter Tryd.func23, Tryd.ntmps23
  go_upto_region 2 with fail
  rw [← HW0.out, ← HG.out]
  clear HW0
  go_upto_region 3 with (at_builtin; go_must (refine wpList_extend (.slice none 0 0) 24 HOWN.out Tryd.underlying22 infoRow rfl rfl (b := b) (off := 0) (m := 4) (c := cap) (news := [rv 0, rv 1, rv 2, rv 3]) rfl HNEWS.out HONE.out rfl HN1.out (by omega) (Nat.le_refl _) ?_; intro v' w5 hown1 hbel1 _ hnil; (obtain ⟨r5, c5, rfl, ho⟩ := own_some hown1 (by omega)); have HO5 := Lib.hid ho; have HB5 := Lib.hid hbel1; (obtain ⟨uc, huc⟩ := own_hasCell ho k (by simp; omega)); have hfz := ho.frozenAt k; clear hown1 hbel1 hnil ho))
  simp only [Nat.zero_add, List.nil_append] at HO5 huc
  have hr5 := (HO5.out.lt r5 rfl).1
  have hgr : g ≠ r5 ∧ g + 1 ≠ r5 := by omega
  go_upto_region 4 with fail
  obtain ⟨w6, hw6⟩ : ∃ y, y = w5.setCell ⟨r5, k, none⟩ (.slice pa pn pc) := ⟨_, rfl⟩
  have hsr : SR z w6 (.slice (some ⟨r5, 0, none⟩) 4 c5) (s.setP k x f) := by
    rw [hw6]
    exact H2.out.with HB5.out w0.heap.size hz0 HRV.out HO5.out hk HP.out HF.out
  have h15 := H1.out.below HB5.out
  have hrow5 : ∃ cs fr, w5.heap[r5]? = some (.cells cs 25 fr) := by
    rcases HO5.out.2 with ⟨h, -⟩ | ⟨g', c', cur, h, h3, h4, -⟩
    · cases h
    · cases h
      exact ⟨cur, _, h4⟩
  obtain ⟨cs5, fr5, hrow5⟩ := hrow5
  have h16 : IV z w6 (.slice a1 n1 m1) L := by rw [hw6]; exact h15.set hrow5 (by decide)
  have hx0 : w6.heap[g]? = some (.cells #[.slice a1 n1 m1, .slice (some ⟨b, 0, none⟩) 4 cap] 46 (0, 0)) := by
    rw [hw6]
    exact (heap_setCell_other w5 ⟨r5, k, none⟩ g _ (by simp only; omega)).trans ((HB5.out.block g (by omega)).trans HH0.out)
  have hx1 : w6.heap[g + 1]? = some (.cells #[.slice none 0 0, .slice none 0 0] 46 (0, 0)) := by
    rw [hw6]
    exact (heap_setCell_other w5 ⟨r5, k, none⟩ (g + 1) _ (by simp only; omega)).trans ((HB5.out.block (g + 1) hgw).trans HH1.out)
  have hb6 : Below w.heap.size w w6 := by
    rw [hw6]
    have h := HB0.out.trans (HB5.out.mono HB0.out.size)
    exact h.setCell (p := ⟨r5, k, none⟩) (by have := HB0.out.size; simp only; omega) _
  rw [← hw6]
  have HSR := Lib.hid hsr
  have H16 := Lib.hid h16
  have HX0 := Lib.hid hx0
  have HX1 := Lib.hid hx1
  have HB6 := Lib.hid hb6
  clear hsr h15 hrow5 h16 hx1 hb6 hw6 huc hfz i0 i1
  obtain ⟨⟨i0, i1⟩, ⟨f0, f1⟩⟩ := cells2 hx0
  clear hx0
  go_upto_region 5 with fail
  have hs0 := heap_setCell_same w6 g 1 _ _ (.slice (some ⟨r5, 0, none⟩) 4 c5) HX0.out
  have hs1 := (heap_setCell_other w6 ⟨g, 1, none⟩ (g + 1) (.slice (some ⟨r5, 0, none⟩) 4 c5) (by simp only; omega)).trans HX1.out
  have hsr7 := HSR.out.set (o := 1) (u := .slice (some ⟨r5, 0, none⟩) 4 c5) HX0.out (by decide) (by decide)
  have h17 := H16.out.set (o := 1) (u := .slice (some ⟨r5, 0, none⟩) 4 c5) HX0.out (by decide)
  have hb7 := HB6.out.setCell (p := ⟨g, 1, none⟩) (by have := HG.out; simp only; omega) (.slice (some ⟨r5, 0, none⟩) 4 c5)
  obtain ⟨w7, hw7⟩ : ∃ y, y = w6.setCell ⟨g, 1, none⟩ (.slice (some ⟨r5, 0, none⟩) 4 c5) := ⟨_, rfl⟩
  rw [← hw7] at hs0 hs1 hsr7 h17 hb7 ⊢
  have HY0 : Hid (w7.heap[g]? = some (.cells #[.slice a1 n1 m1, .slice (some ⟨r5, 0, none⟩) 4 c5] 46 (0, 0))) := Lib.hid hs0
  have HY1 := Lib.hid hs1
  have HS7 := Lib.hid hsr7
  have H17 := Lib.hid h17
  have HB7 := Lib.hid hb7
  clear hs0 hs1 hsr7 h17 hb7 hw7 i0 i1 f0 f1
  obtain ⟨⟨i0, i1⟩, -⟩ := cells2 HY0.out
  obtain ⟨⟨j0, j1⟩, ⟨y0, y1⟩⟩ := cells2 HY1.out
  go_wp2_with fail
  have q0 := heap_setCell_same w7 (g + 1) 0 _ _ (.slice a1 n1 m1) HY1.out
  refine bodyPost_ret (results_row1 rfl rfl (load_planes (fill2 HY1.out _ _))) rfl ⟨⟨.slice (some ⟨r5, 0, none⟩) 4 c5, rfl, ?_, ?_⟩, ?_⟩
  · exact (HS7.out.set HY1.out (by decide) (by decide)).set q0 (by decide) (by decide)
  · exact (H17.out.set HY1.out (by decide)).set q0 (by decide)
  · have hg := HG.out
    exact (HB7.out.setCell (p := ⟨g + 1, 0, none⟩) (by simp only; omega) _).setCell (p := ⟨g + 1, 1, none⟩) (by simp only; omega) _

def zero32 : Array Value := (ints (List.replicate 32 0)).toArray
theorem mk32 : ∀ w : World, (Instr.makeSlice 25 (.int .i64 32) (.int .i64 32)).run Tryd.prog w = .ok (.slice (some ⟨w.heap.size, 0, none⟩) 32 32) (w.alloc (.cells zero32 3)) := fun _ => by kernel_rfl

theorem ints32 (w : World) {g : Nat} (hh : w.heap[g]? = some (.cells zero32 3 (0, 0))) (hz : z ≤ g) : IV z w (.slice (some ⟨g, 0, none⟩) 32 32) (rowOf 0) := by
  rw [rowOf_zero]
  refine ⟨⟨_, 32, rfl, Nat.le_refl _, by unfold maxLen; omega, fun _ => ⟨g, 0, rfl, (Array.getElem?_eq_some_iff.1 hh).1, fun j x hj => ?_⟩⟩, fun a n c e => by cases e; exact ⟨_, _, hh⟩, fun a n c e => by cases e; exact hz⟩
  unfold World.cell?
  simp only [Nat.zero_add]
  rw [hh]
  show zero32[j]? = _
  unfold zero32 ints
  rw [List.getElem?_toArray, List.getElem?_map, hj]
  rfl
theorem nils4 (w : World) {b : Nat} (hh : w.heap[b]? = some (.cells #[.slice none 0 0, .slice none 0 0, .slice none 0 0, .slice none 0 0] 25 (0, 0))) (hz : z ≤ b) : SR z w (.slice (some ⟨b, 0, none⟩) 4 4) Vol.new := by
  refine ⟨b, 4, _, _, rfl, Nat.le_refl _, by unfold maxLen; omega, hh, hz, fun k hk => ⟨.slice none 0 0, ?_, IV.nil w, fun _ => rfl⟩⟩
  unfold World.cell?
  simp only
  rw [hh]
  rcases k with _ | _ | _ | _ | k <;> first | rfl | omega

set_option maxRecDepth 100000 in
set_option maxHeartbeats 1000000 in
theorem rnewp_walk (w : World) (hz : z ≤ w.heap.size) : Calls Tryd.prog 18 #[] w fun e w' => (∃ v1 v2, e = .returned (.agg #[v1, v2]) ∧ IV z w' v1 (rowOf Vol.new.now) ∧ SR z w' v2 Vol.new) ∧ Below w.heap.size w w' := by
  obtain ⟨W1, hW1⟩ : ∃ W1, W1 = w.alloc (.cells #[.slice (some ⟨w.heap.size + 1, 0, none⟩) 32 32, .slice (some ⟨w.heap.size + 1 + 1, 0, none⟩) 4 4] 46) := ⟨_, rfl⟩
  have hb1 : Below w.heap.size w W1 := by rw [hW1]; exact (Below.refl _ _).alloc (Nat.le_refl _) _
  have hX : W1.heap[w.heap.size]? = some (.cells #[.slice (some ⟨w.heap.size + 1, 0, none⟩) 32 32, .slice (some ⟨w.heap.size + 1 + 1, 0, none⟩) 4 4] 46 (0, 0)) := by rw [hW1]; exact heap_alloc_new w _
  have hzs : W1.heap.size = w.heap.size + 1 := by rw [hW1]; simp
  obtain ⟨W2, hW2⟩ : ∃ W2, W2 = W1.alloc (.cells zero32 3) := ⟨_, rfl⟩
  obtain ⟨W3, hW3⟩ : ∃ W3, W3 = W2.alloc (.cells #[.slice none 0 0, .slice none 0 0, .slice none 0 0, .slice none 0 0] 25) := ⟨_, rfl⟩
  have hz2 : W2.heap.size = w.heap.size + 2 := by rw [hW2]; simp [hzs]
  have hX2 : W3.heap[w.heap.size]? = some (.cells #[.slice (some ⟨w.heap.size + 1, 0, none⟩) 32 32, .slice (some ⟨w.heap.size + 1 + 1, 0, none⟩) 4 4] 46 (0, 0)) := by
    rw [hW3, Below.heap_alloc _ _ _ (by omega), hW2, Below.heap_alloc _ _ _ (by omega)]
    exact hX
  have hY : W3.heap[W1.heap.size]? = some (.cells zero32 3 (0, 0)) := by
    rw [hW3, Below.heap_alloc _ _ _ (by omega), hW2]
    exact heap_alloc_new W1 _
  have hZ : W3.heap[W2.heap.size]? = some (.cells #[.slice none 0 0, .slice none 0 0, .slice none 0 0, .slice none 0 0] 25 (0, 0)) := by
    rw [hW3]
    exact heap_alloc_new W2 _
  have hb3 : Below w.heap.size w W3 := by
    rw [hW3, hW2]
    exact (hb1.alloc (by omega) _).alloc (by simp; omega) _
  have HX2 := Lib.hid hX2
  have HB3 := Lib.hid hb3
  rw [hzs] at hY
  rw [hz2] at hZ
  have HIV := Lib.hid (ints32 (z := z) W3 hY (by omega))
  have HSR := Lib.hid (nils4 (z := z) W3 (b := w.heap.size + 1 + 1) hZ (by omega))
  have HW1 := Lib.hid hW1
  have HW2 := Lib.hid hW2
  have HW3 := Lib.hid hW3
  clear hb1 hX hzs hz2 hX2 hY hZ hb3 hW1 hW2 hW3
  go_enter Tryd.func18, Tryd.ntmps18
  have hmk := mk32
  go_wp2_with fail
  have h1 := HIV.out
  have h2 := HSR.out
  have h3 := HX2.out
  have h4 := HB3.out
  rw [HW3.out, HW2.out, HW1.out] at h1 h2 h3 h4
  exact bodyPost_ret (results_row1 rfl rfl (load_planes h3)) rfl ⟨⟨.slice (some ⟨w.heap.size + 1, 0, none⟩) 32 32, .slice (some ⟨w.heap.size + 1 + 1, 0, none⟩) 4 4, rfl, h1, h2⟩, h4⟩

end Go.Proofs.YtegibgflhhdddaaDoor
