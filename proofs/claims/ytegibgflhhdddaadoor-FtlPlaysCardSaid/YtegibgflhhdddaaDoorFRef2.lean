/- The reference's flash: down, New. -/
import Derived.Test.YtegibgflhhdddaaDoorFRef1
namespace Go.Proofs.YtegibgflhhdddaaDoor
open Go.RowKit Ftl

/-- what a function of the flash gives back -/
def FRRes (z : Nat) (r : RF) (e : Ending) (w' : World) : Prop := ∃ v1 v2 v3 v4 v5, e = .returned (frV v1 v2 v3 v4 v5 r.act) ∧ FRIs z w' v1 v2 v3 v4 v5 r
variable {z : Nat}

theorem map_snoc {α β : Type} (f : α → β) (l : List α) (x : α) : (l ++ [x]).map f = l.map f ++ [f x] := by simp

set_option maxRecDepth 100000 in
set_option maxHeartbeats 4000000 in
theorem rdown_walk (w : World) (v1 v2 v3 v4 v5 : Value) (r : RF) (p : Nat) (v : Int) (h : FRIs z w v1 v2 v3 v4 v5 r) (hlen : r.L.length ≤ 1000) (hm : r.many.length = 6) (ha : r.act < 6) (hmx : r.manyAt r.act ≤ 1000) (hz : z ≤ w.heap.size) :
    Calls Tryd.prog 36 #[frV v1 v2 v3 v4 v5 r.act, .int .i64 (p : Nat), .int .i64 v] w fun e w' => FRRes z (r.down (p, v)) e w' ∧ Below w.heap.size w w' := by
  have HR := Lib.hid h
  obtain ⟨a1, n1, m1, rfl, e1⟩ := h.r1.sl
  obtain ⟨a2, n2, m2, rfl, e2⟩ := h.r2.sl
  obtain ⟨a3, n3, m3, rfl, e3⟩ := h.r3.sl
  obtain ⟨a4, n4, m4, rfl, e4⟩ := h.r4.sl
  obtain ⟨a5, n5, m5, rfl, -⟩ := h.r5.sl
  rw [List.length_map] at e1 e2 e3
  rw [natsI_length, hm] at e4
  subst e4
  unfold frV
  obtain ⟨ac, hac⟩ : ∃ a, a = r.act := ⟨_, rfl⟩
  have HAC := Lib.hid hac
  obtain ⟨mc, hmc⟩ : ∃ m, m = r.manyAt r.act := ⟨_, rfl⟩
  have HMC := Lib.hid hmc
  rw [← hac] at ha ⊢
  rw [← hmc] at hmx
  have HM := Lib.hid hm
  have hb0 := ((Below.refl w.heap.size w).alloc (Nat.le_refl _) (.cells #[.slice a1 n1 m1, .slice a2 n2 m2, .slice a3 n3 m3, .slice a4 6 m4, .slice a5 n5 m5, .int .i64 (ac : Nat)] 27)).alloc (by simp) (.cells #[.slice none 0 0, .slice none 0 0, .slice none 0 0, .slice none 0 0, .slice none 0 0, .int .i64 0] 27)
  have hh0 : ((w.alloc (.cells #[.slice a1 n1 m1, .slice a2 n2 m2, .slice a3 n3 m3, .slice a4 6 m4, .slice a5 n5 m5, .int .i64 (ac : Nat)] 27)).alloc (.cells #[.slice none 0 0, .slice none 0 0, .slice none 0 0, .slice none 0 0, .slice none 0 0, .int .i64 0] 27)).heap[w.heap.size]? = some (.cells #[.slice a1 n1 m1, .slice a2 n2 m2, .slice a3 n3 m3, .slice a4 6 m4, .slice a5 n5 m5, .int .i64 (ac : Nat)] 27 (0, 0)) := by
    rw [Below.heap_alloc _ _ _ (by simp)]
    exact heap_alloc_new w _
  have hh1 := heap_alloc_new (w.alloc (.cells #[.slice a1 n1 m1, .slice a2 n2 m2, .slice a3 n3 m3, .slice a4 6 m4, .slice a5 n5 m5, .int .i64 (ac : Nat)] 27)) (.cells #[.slice none 0 0, .slice none 0 0, .slice none 0 0, .slice none 0 0, .slice none 0 0, .int .i64 0] 27)
  obtain ⟨w0, hw0⟩ : ∃ x, x = (w.alloc (.cells #[.slice a1 n1 m1, .slice a2 n2 m2, .slice a3 n3 m3, .slice a4 6 m4, .slice a5 n5 m5, .int .i64 (ac : Nat)] 27)).alloc (.cells #[.slice none 0 0, .slice none 0 0, .slice none 0 0, .slice none 0 0, .slice none 0 0, .int .i64 0] 27) := ⟨_, rfl⟩
  rw [← hw0] at hb0 hh0 hh1
  rw [World.size_alloc] at hh1
  obtain ⟨g, hg⟩ : ∃ g, g = w.heap.size := ⟨_, rfl⟩
  rw [← hg] at hh0 hh1
  have HB0 := Lib.hid hb0
  have HG := Lib.hid hg
  have H0 := Lib.hid hh0
  have H1 := Lib.hid hh1
  have HR0 := Lib.hid (h.below hb0)
  have HW0 := Lib.hid hw0
  have hz0 : g + 1 < w0.heap.size := lt_of_heap hh1
  have hzw : z ≤ w0.heap.size := by omega
  clear hz
  obtain ⟨⟨i0, i1, i2, i3, i4, i5⟩, ⟨f0, f1, f2, f3, f4, f5⟩⟩ := cells6 hh0
  clear h e1 e2 e3 hw0 hb0 hg hh0 hh1 hac hmc hm
  go_enter Tryd.func36, Tryd.ntmps36
  go_wp2_with fail
  rw [← HW0.out, ← HG.out]
  clear HW0
  refine (behind_iv _ (r.L.map fun e => e.1) (ac : Int) w0 HR0.out.r1 (fun h => HR0.out.n1 (by simpa using h)) (by rw [List.length_map]; omega) (by omega)).mono ?_
  rintro _ w1 ⟨⟨b1, k1, rfl, h1⟩, hb1⟩
  rw [List.length_map] at h1 ⊢
  obtain ⟨l, hl⟩ : ∃ l, l = r.L.length + 1 := ⟨_, rfl⟩
  rw [← hl] at h1 ⊢
  have HL := Lib.hid hl
  have HV1 := Lib.hid h1
  have H01 := Lib.hid ((hb1.block g (by omega)).trans H0.out)
  have H11 := Lib.hid ((hb1.block (g + 1) hz0).trans H1.out)
  have HR1 := Lib.hid (HR0.out.below hb1)
  have HB1 := Lib.hid (HB0.out.trans (hb1.mono HB0.out.size))
  have hz1 := hb1.size
  clear h1 hb1 i0 i1 i2 i3 i4 i5 f0 f1 f2 f3 f4 f5 hl
  obtain ⟨⟨i0, i1, i2, i3, i4, i5⟩, ⟨f0, f1, f2, f3, f4, f5⟩⟩ := cells6 H01.out
  go_wp2_with fail
  have hbs1 := HB1.out.setCell (p := ⟨g, 0, none⟩) (by have := HG.out; simp only; omega) (.slice (some ⟨b1, 0, none⟩) l k1)
  have hs01 := heap_setCell_same w1 g 0 _ _ (.slice (some ⟨b1, 0, none⟩) l k1) H01.out
  have hs11 := (heap_setCell_other w1 ⟨g, 0, none⟩ (g + 1) (.slice (some ⟨b1, 0, none⟩) l k1) (by simp only; omega)).trans H11.out
  have hvs1 := HV1.out.set (o := 0) (u := .slice (some ⟨b1, 0, none⟩) l k1) H01.out (by decide)
  have hrs1 := HR1.out.set (o := 0) (u := .slice (some ⟨b1, 0, none⟩) l k1) H01.out
  have hzs := World.size_setCell w1 ⟨g, 0, none⟩ (.slice (some ⟨b1, 0, none⟩) l k1)
  obtain ⟨w2, hw2⟩ : ∃ x, x = w1.setCell ⟨g, 0, none⟩ (.slice (some ⟨b1, 0, none⟩) l k1) := ⟨_, rfl⟩
  rw [← hw2] at hbs1 hs01 hs11 hvs1 hrs1 hzs ⊢
  have HBS := Lib.hid hbs1
  have HS0 : Hid (w2.heap[g]? = some (.cells #[.slice (some ⟨b1, 0, none⟩) l k1, .slice a2 n2 m2, .slice a3 n3 m3, .slice a4 6 m4, .slice a5 n5 m5, .int .i64 (ac : Nat)] 27 (0, 0))) := Lib.hid hs01
  have HS1 := Lib.hid hs11
  have HV1b := Lib.hid hvs1
  have HRS := Lib.hid hrs1
  have hz2 : w0.heap.size ≤ w2.heap.size := by rw [hzs]; exact hz1
  clear hbs1 hs01 hs11 hvs1 hrs1 hw2 hzs i0 i1 i2 i3 i4 i5 f0 f1 f2 f3 f4 f5 HB1 H01 H11 HV1 HR1
  refine (behind_iv _ (r.L.map fun e => (e.2.1 : Int)) (p : Int) w2 HRS.out.r2 (fun h => HRS.out.n2 (by simpa using h)) (by rw [List.length_map]; have := HL.out; omega) (by omega)).mono ?_
  rintro _ w3 ⟨⟨b2, k2, rfl, h2⟩, hb2⟩
  rw [List.length_map, ← HL.out] at h2 ⊢
  have HV2 := Lib.hid h2
  have H03 := Lib.hid ((hb2.block g (by omega)).trans HS0.out)
  have H13 := Lib.hid ((hb2.block (g + 1) (by omega)).trans HS1.out)
  have HV1 := Lib.hid (HV1b.out.below hb2)
  have HR3 := Lib.hid (HRS.out.below hb2)
  have HB3 := Lib.hid (HBS.out.trans (hb2.mono HBS.out.size))
  have hz3 := hb2.size
  clear h2 hb2 HBS HS0 HS1 HV1b HRS
  obtain ⟨⟨i0, i1, i2, i3, i4, i5⟩, ⟨f0, f1, f2, f3, f4, f5⟩⟩ := cells6 H03.out
  go_wp2_with fail
  have hbs1 := HB3.out.setCell (p := ⟨g, 1, none⟩) (by have := HG.out; simp only; omega) (.slice (some ⟨b2, 0, none⟩) l k2)
  have hs01 := heap_setCell_same w3 g 1 _ _ (.slice (some ⟨b2, 0, none⟩) l k2) H03.out
  have hs11 := (heap_setCell_other w3 ⟨g, 1, none⟩ (g + 1) (.slice (some ⟨b2, 0, none⟩) l k2) (by simp only; omega)).trans H13.out
  have hvs1 := HV1.out.set (o := 1) (u := .slice (some ⟨b2, 0, none⟩) l k2) H03.out (by decide)
  have hvs2 := HV2.out.set (o := 1) (u := .slice (some ⟨b2, 0, none⟩) l k2) H03.out (by decide)
  have hrs1 := HR3.out.set (o := 1) (u := .slice (some ⟨b2, 0, none⟩) l k2) H03.out
  have hzs := World.size_setCell w3 ⟨g, 1, none⟩ (.slice (some ⟨b2, 0, none⟩) l k2)
  obtain ⟨w4, hw4⟩ : ∃ x, x = w3.setCell ⟨g, 1, none⟩ (.slice (some ⟨b2, 0, none⟩) l k2) := ⟨_, rfl⟩
  rw [← hw4] at hbs1 hs01 hs11 hvs1 hvs2 hrs1 hzs ⊢
  have HBS := Lib.hid hbs1
  have HS0 : Hid (w4.heap[g]? = some (.cells #[.slice (some ⟨b1, 0, none⟩) l k1, .slice (some ⟨b2, 0, none⟩) l k2, .slice a3 n3 m3, .slice a4 6 m4, .slice a5 n5 m5, .int .i64 (ac : Nat)] 27 (0, 0))) := Lib.hid hs01
  have HS1 := Lib.hid hs11
  have HV1b := Lib.hid hvs1
  have HV2b := Lib.hid hvs2
  have HRS := Lib.hid hrs1
  have hz4 : w0.heap.size ≤ w4.heap.size := by rw [hzs]; omega
  clear hbs1 hs01 hs11 hvs1 hvs2 hrs1 hw4 hzs i0 i1 i2 i3 i4 i5 f0 f1 f2 f3 f4 f5 HB3 H03 H13 HV1 HV2 HR3 hz1 hz2 hz3
  refine (behind_iv _ (r.L.map fun e => e.2.2) v w4 HRS.out.r3 (fun h => HRS.out.n3 (by simpa using h)) (by rw [List.length_map]; have := HL.out; omega) (by omega)).mono ?_
  rintro _ w5 ⟨⟨b3, k3, rfl, h3⟩, hb3⟩
  rw [List.length_map, ← HL.out] at h3 ⊢
  have HV3 := Lib.hid h3
  have H05 := Lib.hid ((hb3.block g (by omega)).trans HS0.out)
  have H15 := Lib.hid ((hb3.block (g + 1) (by omega)).trans HS1.out)
  have HV1 := Lib.hid (HV1b.out.below hb3)
  have HV2 := Lib.hid (HV2b.out.below hb3)
  have HR5 := Lib.hid (HRS.out.below hb3)
  have HB5 := Lib.hid (HBS.out.trans (hb3.mono HBS.out.size))
  have hz5 := hb3.size
  clear h3 hb3 HBS HS0 HS1 HV1b HV2b HRS
  obtain ⟨⟨i0, i1, i2, i3, i4, i5⟩, ⟨f0, f1, f2, f3, f4, f5⟩⟩ := cells6 H05.out
  go_upto_region 4 with (fail)
  have hbs1 := HB5.out.setCell (p := ⟨g, 2, none⟩) (by have := HG.out; simp only; omega) (.slice (some ⟨b3, 0, none⟩) l k3)
  have hs01 := heap_setCell_same w5 g 2 _ _ (.slice (some ⟨b3, 0, none⟩) l k3) H05.out
  have hs11 := (heap_setCell_other w5 ⟨g, 2, none⟩ (g + 1) (.slice (some ⟨b3, 0, none⟩) l k3) (by simp only; omega)).trans H15.out
  have hvs1 := HV1.out.set (o := 2) (u := .slice (some ⟨b3, 0, none⟩) l k3) H05.out (by decide)
  have hvs2 := HV2.out.set (o := 2) (u := .slice (some ⟨b3, 0, none⟩) l k3) H05.out (by decide)
  have hvs3 := HV3.out.set (o := 2) (u := .slice (some ⟨b3, 0, none⟩) l k3) H05.out (by decide)
  have hrs1 := HR5.out.set (o := 2) (u := .slice (some ⟨b3, 0, none⟩) l k3) H05.out
  have hzs := World.size_setCell w5 ⟨g, 2, none⟩ (.slice (some ⟨b3, 0, none⟩) l k3)
  obtain ⟨w6, hw6⟩ : ∃ x, x = w5.setCell ⟨g, 2, none⟩ (.slice (some ⟨b3, 0, none⟩) l k3) := ⟨_, rfl⟩
  rw [← hw6] at hbs1 hs01 hs11 hvs1 hvs2 hvs3 hrs1 hzs ⊢
  have HBS := Lib.hid hbs1
  have HS0 : Hid (w6.heap[g]? = some (.cells #[.slice (some ⟨b1, 0, none⟩) l k1, .slice (some ⟨b2, 0, none⟩) l k2, .slice (some ⟨b3, 0, none⟩) l k3, .slice a4 6 m4, .slice a5 n5 m5, .int .i64 (ac : Nat)] 27 (0, 0))) := Lib.hid hs01
  have HS1 := Lib.hid hs11
  have HV1b := Lib.hid hvs1
  have HV2b := Lib.hid hvs2
  have HV3b := Lib.hid hvs3
  have HRS := Lib.hid hrs1
  have hz6 : w0.heap.size ≤ w6.heap.size := by rw [hzs]; omega
  clear hbs1 hs01 hs11 hvs1 hvs2 hvs3 hrs1 hw6 hzs i0 i1 i2 i3 i4 i5 f0 f1 f2 f3 f4 f5 HB5 H05 H15 HV1 HV2 HV3 HR5 hz5
  obtain ⟨⟨i0, i1, i2, i3, i4, i5⟩, ⟨f0, f1, f2, f3, f4, f5⟩⟩ := cells6 HS0.out
  have hrm : r.many[ac]? = some mc := by rw [HMC.out, HAC.out]; unfold RF.manyAt; rw [List.getElem?_eq_getElem (by rw [HM.out, ← HAC.out]; omega)]; rfl
  obtain ⟨b4, o4, rfl, c4, -⟩ := HRS.out.r4.at (natsI_get hrm)
  have hi0 : (0 : Int) ≤ (ac : Int) := by omega
  have hi1 : (ac : Int) < 6 := by omega
  clear hrm
  go_still_tail 11, (by kernel_rfl)
  change wpList _ _ _ _ _ w6.drew
  have s1 : IntKind.i64.wrap ((mc : Int) + 1) = ((mc + 1 : Nat) : Int) := by rw [IntWalk.i64_in _ (by omega)]; omega
  go_wp2_with fail
  refine (set_iv _ (natsI r.many) ac ((mc + 1 : Nat) : Int) w6.drew (HRS.out.r4.below (Below.refl w6.heap.size w6).drew) (by rw [natsI_length, HM.out]; omega) (by rw [natsI_length, HM.out]; omega) (by simp only [World.size_drew]; omega)).mono ?_
  rintro _ w7 ⟨⟨b7, k7, rfl, h7⟩, hb7⟩
  rw [natsI_length, HM.out, ← natsI_set] at h7
  rw [natsI_length, HM.out]
  have hb67 : Below w6.heap.size w6 w7 := (Below.refl w6.heap.size w6).drew.trans hb7
  have HV4 := Lib.hid h7
  have H07 := Lib.hid ((hb67.block g (by omega)).trans HS0.out)
  have H17 := Lib.hid ((hb67.block (g + 1) (by omega)).trans HS1.out)
  have HV1 := Lib.hid (HV1b.out.below hb67)
  have HV2 := Lib.hid (HV2b.out.below hb67)
  have HV3 := Lib.hid (HV3b.out.below hb67)
  have HR7 := Lib.hid (HRS.out.below hb67)
  have HB7 := Lib.hid (HBS.out.trans (hb67.mono HBS.out.size))
  have hz7 := hb67.size
  clear h7 hb67 hb7 i0 i1 i2 i3 i4 i5 f0 f1 f2 f3 f4 f5 HBS HS0 HS1 HV1b HV2b HV3b HRS c4 s1
  obtain ⟨⟨i0, i1, i2, i3, i4, i5⟩, ⟨f0, f1, f2, f3, f4, f5⟩⟩ := cells6 H07.out
  obtain ⟨⟨j0, j1, j2, j3, j4, j5⟩, ⟨y0, y1, y2, y3, y4, y5⟩⟩ := cells6 H17.out
  go_wp2_with fail
  have hs0 := heap_setCell_same w7 g 3 _ _ (.slice (some ⟨b7, 0, none⟩) 6 k7) H07.out
  have hs1 := (heap_setCell_other w7 ⟨g, 3, none⟩ (g + 1) (.slice (some ⟨b7, 0, none⟩) 6 k7) (by simp only; omega)).trans H17.out
  have hbz := HB7.out.setCell (p := ⟨g, 3, none⟩) (by have := HG.out; simp only; omega) (.slice (some ⟨b7, 0, none⟩) 6 k7)
  have hfr : FRIs z (w7.setCell ⟨g, 3, none⟩ (.slice (some ⟨b7, 0, none⟩) 6 k7)) (.slice (some ⟨b1, 0, none⟩) l k1) (.slice (some ⟨b2, 0, none⟩) l k2) (.slice (some ⟨b3, 0, none⟩) l k3) (.slice (some ⟨b7, 0, none⟩) 6 k7) (.slice a5 n5 m5) (r.down (p, v)) := by
    refine ⟨?_, ?_, ?_, ?_, ?_, fun e => absurd e (by simp [RF.down]), fun e => absurd e (by simp [RF.down]), fun e => absurd e (by simp [RF.down])⟩
    · show IV z _ _ ((r.L ++ [((r.act : Int), (p, v))]).map fun e => e.1)
      rw [map_snoc, ← HAC.out]
      exact HV1.out.set H07.out (by decide)
    · show IV z _ _ ((r.L ++ [((r.act : Int), (p, v))]).map fun e => (e.2.1 : Int))
      rw [map_snoc]
      exact HV2.out.set H07.out (by decide)
    · show IV z _ _ ((r.L ++ [((r.act : Int), (p, v))]).map fun e => e.2.2)
      rw [map_snoc]
      exact HV3.out.set H07.out (by decide)
    · show IV z _ _ (natsI (r.many.set r.act (r.manyAt r.act + 1)))
      rw [← HMC.out, ← HAC.out]
      exact HV4.out.set H07.out (by decide)
    · exact HR7.out.r5.set H07.out (by decide)
  have HBZ := Lib.hid hbz
  have HFR := Lib.hid hfr
  refine bodyPost_ret (results_row1 rfl rfl (load_flash (fill6 hs1 _ _ _ _ _ _))) rfl ⟨⟨.slice (some ⟨b1, 0, none⟩) l k1, .slice (some ⟨b2, 0, none⟩) l k2, .slice (some ⟨b3, 0, none⟩) l k3, .slice (some ⟨b7, 0, none⟩) 6 k7, .slice a5 n5 m5, ?_, ?_⟩, ?_⟩
  rotate_left
  · have q0 := heap_setCell_same _ (g + 1) 0 _ _ (.slice (some ⟨b1, 0, none⟩) l k1) hs1
    have q1 := heap_setCell_same _ (g + 1) 1 _ _ (.slice (some ⟨b2, 0, none⟩) l k2) q0
    have q2 := heap_setCell_same _ (g + 1) 2 _ _ (.slice (some ⟨b3, 0, none⟩) l k3) q1
    have q3 := heap_setCell_same _ (g + 1) 3 _ _ (.slice (some ⟨b7, 0, none⟩) 6 k7) q2
    have q4 := heap_setCell_same _ (g + 1) 4 _ _ (.slice a5 n5 m5) q3
    exact (((((HFR.out.set hs1).set q0).set q1).set q2).set q3).set q4
  · have hg := HG.out
    exact (((((HBZ.out.setCell (p := ⟨g + 1, 0, none⟩) (by simp only; omega) _).setCell (p := ⟨g + 1, 1, none⟩) (by simp only; omega) _).setCell (p := ⟨g + 1, 2, none⟩) (by simp only; omega) _).setCell (p := ⟨g + 1, 3, none⟩) (by simp only; omega) _).setCell (p := ⟨g + 1, 4, none⟩) (by simp only; omega) _).setCell (p := ⟨g + 1, 5, none⟩) (by simp only; omega) _
  · rw [HAC.out]
    rfl

theorem mk6 : ∀ w : World, (Instr.makeSlice 25 (.int .i64 6) (.int .i64 6)).run Tryd.prog w = .ok (.slice (some ⟨w.heap.size, 0, none⟩) 6 6) (w.alloc (.cells #[.int .i64 0, .int .i64 0, .int .i64 0, .int .i64 0, .int .i64 0, .int .i64 0] 3)) := fun _ => by kernel_rfl

theorem ints6 (w : World) {g : Nat} (hh : w.heap[g]? = some (.cells #[.int .i64 0, .int .i64 0, .int .i64 0, .int .i64 0, .int .i64 0, .int .i64 0] 3 (0, 0))) (hz : z ≤ g) : IV z w (.slice (some ⟨g, 0, none⟩) 6 6) (natsI (List.replicate 6 0)) := by
  refine ⟨⟨_, 6, rfl, Nat.le_refl _, by unfold maxLen; omega, fun _ => ⟨g, 0, rfl, (Array.getElem?_eq_some_iff.1 hh).1, fun j x hj => ?_⟩⟩, fun a n c e => by cases e; exact ⟨_, _, hh⟩, fun a n c e => by cases e; exact hz⟩
  have hj8 : j < 6 := by have := (List.getElem?_eq_some_iff.1 hj).1; simpa [natsI] using this
  have hx : x = 0 := by
    unfold natsI at hj
    rw [List.map_replicate, List.getElem?_replicate, if_pos hj8] at hj
    exact (Option.some.inj hj).symm
  subst hx
  unfold World.cell?
  simp only [Nat.zero_add]
  rw [hh]
  rcases j with _ | _ | _ | _ | _ | _ | j <;> first | rfl | omega

theorem load_flashD {w : World} {g : Nat} {v1 v2 v3 v4 v5 v6 : Value} (hh : w.heap[g]? = some (.cells #[v1, v2, v3, v4, v5, v6] 27 (0, 0))) : (loadVar 27 ⟨g, 0, none⟩).run Tryd.prog w.drew = .ok (.agg #[v1, v2, v3, v4, v5, v6]) w.drew := load_flash (w := w.drew) hh

theorem new_fin {w Z Z' : World} {g x y : Nat} (hX : Z.heap[g]? = some (.cells #[.slice none 0 0, .slice none 0 0, .slice none 0 0, .slice none 0 0, .slice none 0 0, .int .i64 0] 27 (0, 0)))
    (hx : Z.heap[x]? = some (.cells #[.int .i64 0, .int .i64 0, .int .i64 0, .int .i64 0, .int .i64 0, .int .i64 0] 3 (0, 0))) (hy : Z.heap[y]? = some (.cells #[.int .i64 0, .int .i64 0, .int .i64 0, .int .i64 0, .int .i64 0, .int .i64 0] 3 (0, 0)))
    (hb : Below w.heap.size w Z) (hg : w.heap.size ≤ g) (hzx : z ≤ x) (hzy : z ≤ y)
    (hZ : Z' = (((((Z.setCell ⟨g, 0, none⟩ (.slice none 0 0)).setCell ⟨g, 1, none⟩ (.slice none 0 0)).setCell ⟨g, 2, none⟩ (.slice none 0 0)).setCell ⟨g, 3, none⟩ (.slice (some ⟨x, 0, none⟩) 6 6)).setCell ⟨g, 4, none⟩ (.slice (some ⟨y, 0, none⟩) 6 6)).setCell ⟨g, 5, none⟩ (.int .i64 0)) :
    Z'.heap[g]? = some (.cells #[.slice none 0 0, .slice none 0 0, .slice none 0 0, .slice (some ⟨x, 0, none⟩) 6 6, .slice (some ⟨y, 0, none⟩) 6 6, .int .i64 0] 27 (0, 0)) ∧
    FRIs z Z'.drew (.slice none 0 0) (.slice none 0 0) (.slice none 0 0) (.slice (some ⟨x, 0, none⟩) 6 6) (.slice (some ⟨y, 0, none⟩) 6 6) RF.new ∧ Below w.heap.size w Z'.drew := by
  have h0 : FRIs z Z (.slice none 0 0) (.slice none 0 0) (.slice none 0 0) (.slice (some ⟨x, 0, none⟩) 6 6) (.slice (some ⟨y, 0, none⟩) 6 6) RF.new := ⟨IV.nil _, IV.nil _, IV.nil _, ints6 _ hx hzx, ints6 _ hy hzy, fun _ => rfl, fun _ => rfl, fun _ => rfl⟩
  have q0 := heap_setCell_same Z g 0 _ _ (.slice none 0 0) hX
  have q1 := heap_setCell_same _ g 1 _ _ (.slice none 0 0) q0
  have q2 := heap_setCell_same _ g 2 _ _ (.slice none 0 0) q1
  have q3 := heap_setCell_same _ g 3 _ _ (.slice (some ⟨x, 0, none⟩) 6 6) q2
  have q4 := heap_setCell_same _ g 4 _ _ (.slice (some ⟨y, 0, none⟩) 6 6) q3
  refine ⟨by rw [hZ]; exact fill6 hX _ _ _ _ _ _, ?_, ?_⟩
  · have h1 := (((((h0.set (o := 0) (u := .slice none 0 0) hX).set (o := 1) (u := .slice none 0 0) q0).set (o := 2) (u := .slice none 0 0) q1).set (o := 3) (u := .slice (some ⟨x, 0, none⟩) 6 6) q2).set (o := 4) (u := .slice (some ⟨y, 0, none⟩) 6 6) q3).set (o := 5) (u := .int .i64 0) q4
    rw [← hZ] at h1
    exact h1.below (Below.refl Z'.heap.size Z').drew
  · have h1 := (((((hb.setCell (p := ⟨g, 0, none⟩) hg (.slice none 0 0)).setCell (p := ⟨g, 1, none⟩) hg (.slice none 0 0)).setCell (p := ⟨g, 2, none⟩) hg (.slice none 0 0)).setCell (p := ⟨g, 3, none⟩) hg (.slice (some ⟨x, 0, none⟩) 6 6)).setCell (p := ⟨g, 4, none⟩) hg (.slice (some ⟨y, 0, none⟩) 6 6)).setCell (p := ⟨g, 5, none⟩) hg (.int .i64 0)
    rw [← hZ] at h1
    exact h1.drew

set_option maxRecDepth 100000 in
set_option maxHeartbeats 1000000 in
theorem rnew_walk (w : World) (hz : z ≤ w.heap.size) : Calls Tryd.prog 7 #[] w fun e w' => FRRes z RF.new e w' ∧ Below w.heap.size w w' := by
  obtain ⟨W1, hW1⟩ : ∃ W1, W1 = w.alloc (.cells #[.slice none 0 0, .slice none 0 0, .slice none 0 0, .slice none 0 0, .slice none 0 0, .int .i64 0] 27) := ⟨_, rfl⟩
  have hb1 : Below w.heap.size w W1 := by rw [hW1]; exact (Below.refl _ _).alloc (Nat.le_refl _) _
  have hX : W1.heap[w.heap.size]? = some (.cells #[.slice none 0 0, .slice none 0 0, .slice none 0 0, .slice none 0 0, .slice none 0 0, .int .i64 0] 27 (0, 0)) := by rw [hW1]; exact heap_alloc_new w _
  have hzs : W1.heap.size = w.heap.size + 1 := by rw [hW1]; simp
  have HB := Lib.hid hb1
  have HX := Lib.hid hX
  have HZ := Lib.hid hzs
  have HW1 := Lib.hid hW1
  have hX2 : ((W1.alloc (.cells #[.int .i64 0, .int .i64 0, .int .i64 0, .int .i64 0, .int .i64 0, .int .i64 0] 3)).alloc (.cells #[.int .i64 0, .int .i64 0, .int .i64 0, .int .i64 0, .int .i64 0, .int .i64 0] 3)).heap[w.heap.size]? = some (.cells #[.slice none 0 0, .slice none 0 0, .slice none 0 0, .slice none 0 0, .slice none 0 0, .int .i64 0] 27 (0, 0)) := by
    rw [Below.heap_alloc _ _ _ (by simp; omega), Below.heap_alloc _ _ _ (by omega)]
    exact hX
  have hY : ((W1.alloc (.cells #[.int .i64 0, .int .i64 0, .int .i64 0, .int .i64 0, .int .i64 0, .int .i64 0] 3)).alloc (.cells #[.int .i64 0, .int .i64 0, .int .i64 0, .int .i64 0, .int .i64 0, .int .i64 0] 3)).heap[W1.heap.size]? = some (.cells #[.int .i64 0, .int .i64 0, .int .i64 0, .int .i64 0, .int .i64 0, .int .i64 0] 3 (0, 0)) := by
    rw [Below.heap_alloc _ _ _ (by simp)]
    exact heap_alloc_new W1 _
  have hZ : ((W1.alloc (.cells #[.int .i64 0, .int .i64 0, .int .i64 0, .int .i64 0, .int .i64 0, .int .i64 0] 3)).alloc (.cells #[.int .i64 0, .int .i64 0, .int .i64 0, .int .i64 0, .int .i64 0, .int .i64 0] 3)).heap[W1.heap.size + 1]? = some (.cells #[.int .i64 0, .int .i64 0, .int .i64 0, .int .i64 0, .int .i64 0, .int .i64 0] 3 (0, 0)) := by
    have h := heap_alloc_new (W1.alloc (.cells #[.int .i64 0, .int .i64 0, .int .i64 0, .int .i64 0, .int .i64 0, .int .i64 0] 3)) (.cells #[.int .i64 0, .int .i64 0, .int .i64 0, .int .i64 0, .int .i64 0, .int .i64 0] 3)
    rw [World.size_alloc] at h
    exact h
  have hb2 : Below w.heap.size w ((W1.alloc (.cells #[.int .i64 0, .int .i64 0, .int .i64 0, .int .i64 0, .int .i64 0, .int .i64 0] 3)).alloc (.cells #[.int .i64 0, .int .i64 0, .int .i64 0, .int .i64 0, .int .i64 0, .int .i64 0] 3)) := (hb1.alloc (by omega) _).alloc (by simp; omega) _
  have HX2 := Lib.hid hX2
  have HY := Lib.hid hY
  have HZZ := Lib.hid hZ
  have HB2 := Lib.hid hb2
  obtain ⟨⟨i0, i1, i2, i3, i4, i5⟩, ⟨f0, f1, f2, f3, f4, f5⟩⟩ := cells6 hX2
  have hz1 : z ≤ W1.heap.size := by omega
  clear hb1 hX hzs hW1 hX2 hY hZ hb2
  go_enter Tryd.func7, Tryd.ntmps7
  have hmk := mk6
  go_wp2_with fail
  rw [← HW1.out]
  clear HW1
  go_region_law (fail)
  · go_wp2_with fail
    obtain ⟨k1, k2, k3⟩ := new_fin (z := z) HX2.out HY.out HZZ.out HB2.out (Nat.le_refl _) (by omega) (by omega) rfl
    exact bodyPost_ret (results_row1 rfl rfl (load_flashD k1)) rfl ⟨⟨.slice none 0 0, .slice none 0 0, .slice none 0 0, .slice (some ⟨W1.heap.size, 0, none⟩) 6 6, .slice (some ⟨W1.heap.size + 1, 0, none⟩) 6 6, rfl, k2⟩, k3⟩
  · go_wp2_with fail
    obtain ⟨k1, k2, k3⟩ := new_fin (z := z) HX2.out HZZ.out HY.out HB2.out (Nat.le_refl _) (by omega) (by omega) rfl
    exact bodyPost_ret (results_row1 rfl rfl (load_flashD k1)) rfl ⟨⟨.slice none 0 0, .slice none 0 0, .slice none 0 0, .slice (some ⟨W1.heap.size + 1, 0, none⟩) 6 6, .slice (some ⟨W1.heap.size, 0, none⟩) 6 6, rfl, k2⟩, k3⟩

end Go.Proofs.YtegibgflhhdddaaDoor
