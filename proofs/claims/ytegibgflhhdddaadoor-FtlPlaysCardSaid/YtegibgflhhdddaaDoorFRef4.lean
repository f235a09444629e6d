/- The reference's flash: Write. -/
import Derived.Test.YtegibgflhhdddaaDoorFRef3
namespace Go.Proofs.YtegibgflhhdddaaDoor
open Go.RowKit Ftl
variable {zz : Nat}

set_option maxRecDepth 100000 in
set_option maxHeartbeats 20000000 in
theorem rwrite_walk (w : World) (v1 v2 v3 v4 v5 : Value) (s : Fl) (r : RF) (p : Nat) (v : Int) (h : FRIs zz w v1 v2 v3 v4 v5 r) (hS : Sim s r) (hok : Ok s) (hm : ∀ b, s.times b ≤ 999999) (hlen : r.L.length ≤ 600) (hz : zz ≤ w.heap.size) :
    Calls Tryd.prog 9 #[frV v1 v2 v3 v4 v5 r.act, .int .i64 (p : Nat), .int .i64 v] w fun e w' => FRRes zz (r.write (p, v)) e w' ∧ Below w.heap.size w w' := by
  obtain ⟨a1, n1, m1, rfl, -⟩ := h.r1.sl
  obtain ⟨a2, n2, m2, rfl, -⟩ := h.r2.sl
  obtain ⟨a3, n3, m3, rfl, -⟩ := h.r3.sl
  obtain ⟨a4, n4, m4, rfl, -⟩ := h.r4.sl
  obtain ⟨a5, n5, m5, rfl, -⟩ := h.r5.sl
  unfold frV
  have HS := Lib.hid hS
  have HOK := Lib.hid hok
  have HM := Lib.hid hm
  have HZW := Lib.hid hz
  clear hz
  have hact : r.act < 6 := by rw [hS.act]; exact hok.act
  have hmany : r.many.length = 6 := hS.mlen
  have herl : r.er.length = 6 := by rw [hS.er]; exact hok.elen
  have HMANY := Lib.hid hmany
  have HERL := Lib.hid herl
  have hb0 : Below w.heap.size w ((w.alloc (.cells #[.slice a1 n1 m1, .slice a2 n2 m2, .slice a3 n3 m3, .slice a4 n4 m4, .slice a5 n5 m5, .int .i64 (r.act : Nat)] 27)).alloc (.cells #[.slice none 0 0, .slice none 0 0, .slice none 0 0, .slice none 0 0, .slice none 0 0, .int .i64 0] 27)) := ((Below.refl w.heap.size w).alloc (Nat.le_refl _) _).alloc (by simp) _
  have hh0 : ((w.alloc (.cells #[.slice a1 n1 m1, .slice a2 n2 m2, .slice a3 n3 m3, .slice a4 n4 m4, .slice a5 n5 m5, .int .i64 (r.act : Nat)] 27)).alloc (.cells #[.slice none 0 0, .slice none 0 0, .slice none 0 0, .slice none 0 0, .slice none 0 0, .int .i64 0] 27)).heap[w.heap.size]? = some (.cells #[.slice a1 n1 m1, .slice a2 n2 m2, .slice a3 n3 m3, .slice a4 n4 m4, .slice a5 n5 m5, .int .i64 (r.act : Nat)] 27 (0, 0)) := by
    rw [Below.heap_alloc _ _ _ (by simp)]
    exact heap_alloc_new w _
  have hh1 := heap_alloc_new (w.alloc (.cells #[.slice a1 n1 m1, .slice a2 n2 m2, .slice a3 n3 m3, .slice a4 n4 m4, .slice a5 n5 m5, .int .i64 (r.act : Nat)] 27)) (.cells #[.slice none 0 0, .slice none 0 0, .slice none 0 0, .slice none 0 0, .slice none 0 0, .int .i64 0] 27)
  obtain ⟨w0, hw0⟩ : ∃ x, x = (w.alloc (.cells #[.slice a1 n1 m1, .slice a2 n2 m2, .slice a3 n3 m3, .slice a4 n4 m4, .slice a5 n5 m5, .int .i64 (r.act : Nat)] 27)).alloc (.cells #[.slice none 0 0, .slice none 0 0, .slice none 0 0, .slice none 0 0, .slice none 0 0, .int .i64 0] 27) := ⟨_, rfl⟩
  rw [← hw0] at hb0 hh0 hh1
  rw [World.size_alloc] at hh1
  obtain ⟨g, hg⟩ : ∃ g, g = w.heap.size := ⟨_, rfl⟩
  rw [← hg] at hh0 hh1
  have HB0 : Hid (FBox zz w w0 g r) := Lib.hid ⟨⟨_, _, _, _, _, hh0, h.below hb0⟩, hh1, by omega, hb0⟩
  have HG := Lib.hid hg
  have HW0 := Lib.hid hw0
  obtain ⟨⟨i0, i1, i2, i3, i4, i5⟩, -⟩ := cells6 hh0
  have hn4 : n4 = 6 := by
    obtain ⟨a, n, c, e, hn⟩ := h.r4.sl
    cases e
    rw [hn, natsI_length, hmany]
  obtain ⟨mc, hmc⟩ : ∃ m, m = r.manyAt r.act := ⟨_, rfl⟩
  have hrm : r.many[r.act]? = some mc := by rw [hmc]; unfold RF.manyAt; rw [List.getElem?_eq_getElem (by rw [hmany]; exact hact)]; rfl
  obtain ⟨b4, o4, rfl, c4, -⟩ := (h.below hb0).r4.at (natsI_get hrm)
  have HMC := Lib.hid hmc
  have hac0 : (0 : Int) ≤ (r.act : Int) := by omega
  have hac1 : (r.act : Int) < (n4 : Int) := by omega
  clear h hS hok hm hmany herl hb0 hh0 hh1 hg hw0 hrm hmc hn4
  go_enter Tryd.func9, Tryd.ntmps9
  go_upto_region 1 with fail
  rw [← HW0.out, ← HG.out]
  clear HW0
  by_cases hf : mc = 4
  rotate_left
  · have q4 : ((mc : Int) == 4) = false := beq_eq_false_iff_ne.2 (by omega)
    go_upto_region 31 with fail
    clear i0 i1 i2 i3 i4 i5 c4
    have HFIN : Hid (r.write (p, v) = r.down (p, v)) := Lib.hid (by unfold RF.write; rw [if_neg (by rw [← HMC.out]; exact hf)])
    have HX1 := Lib.hid (show r.L.length ≤ 1000 by omega)
    have HX2 := Lib.hid HMANY.out
    have HX3 := Lib.hid hact
    have HX4 : Hid (r.manyAt r.act ≤ 1000) := Lib.hid (by
      have h1 := HOK.out.small s.act
      rw [← HS.out.manyAt HOK.out.act, ← HS.out.act] at h1
      omega)
    have HBX := HB0
    clear hf q4
    obtain ⟨a1, m1, a2, m2, a3, m3, a4, m4, a5, m5, hbx, hrx⟩ := HBX.out.open'
    obtain ⟨⟨i0, i1, i2, i3, i4, i5⟩, -⟩ := cells6 hbx
    have HRX := Lib.hid hrx
    clear hbx hrx
    go_wp2_with fail
    refine (rdown_walk w0 _ _ _ _ _ r p v HRX.out HX1.out HX2.out HX3.out HX4.out (Nat.le_trans HZW.out HBX.out.below.size)).mono ?_
    rintro _ w5 ⟨⟨u1, u2, u3, u4, u5, rfl, hr5⟩, hb5⟩
    obtain ⟨c1, k1, e1, rfl, -⟩ := hr5.r1.sl
    obtain ⟨c2, k2, e2, rfl, -⟩ := hr5.r2.sl
    obtain ⟨c3, k3, e3, rfl, -⟩ := hr5.r3.sl
    obtain ⟨c4, k4, e4, rfl, -⟩ := hr5.r4.sl
    obtain ⟨c5, k5, e5, rfl, -⟩ := hr5.r5.sl
    have HR5 := Lib.hid hr5
    have HZ5 := Lib.hid ((hb5.block _ (lt_of_heap HBX.out.res)).trans HBX.out.res)
    have HB5 := Lib.hid (HBX.out.below.trans (hb5.mono HBX.out.below.size))
    obtain ⟨⟨j0, j1, j2, j3, j4, j5⟩, ⟨y0, y1, y2, y3, y4, y5⟩⟩ := cells6 HZ5.out
    clear hr5 hb5 i0 i1 i2 i3 i4 i5
    unfold frV
    go_wp2_with fail
    refine bodyPost_ret (results_row1 rfl rfl (load_flash (fill6 HZ5.out _ _ _ _ _ _))) rfl ⟨⟨.slice c1 k1 e1, .slice c2 k2 e2, .slice c3 k3 e3, .slice c4 k4 e4, .slice c5 k5 e5, ?_, ?_⟩, ?_⟩
    rotate_left
    · rw [HFIN.out]
      have q0 := heap_setCell_same _ (g + 1) 0 _ _ (.slice c1 k1 e1) HZ5.out
      have q1 := heap_setCell_same _ (g + 1) 1 _ _ (.slice c2 k2 e2) q0
      have q2 := heap_setCell_same _ (g + 1) 2 _ _ (.slice c3 k3 e3) q1
      have q3 := heap_setCell_same _ (g + 1) 3 _ _ (.slice c4 k4 e4) q2
      have q4 := heap_setCell_same _ (g + 1) 4 _ _ (.slice c5 k5 e5) q3
      exact (((((HR5.out.set HZ5.out).set q0).set q1).set q2).set q3).set q4
    · have hg : w.heap.size ≤ g := HBX.out.lo
      exact (((((HB5.out.setCell (p := ⟨g + 1, 0, none⟩) (by simp only; omega) _).setCell (p := ⟨g + 1, 1, none⟩) (by simp only; omega) _).setCell (p := ⟨g + 1, 2, none⟩) (by simp only; omega) _).setCell (p := ⟨g + 1, 3, none⟩) (by simp only; omega) _).setCell (p := ⟨g + 1, 4, none⟩) (by simp only; omega) _).setCell (p := ⟨g + 1, 5, none⟩) (by simp only; omega) _
    · rw [HFIN.out]
      rfl
  · have q4 : ((mc : Int) == 4) = true := beq_iff_eq.2 (by omega)
    have HF : Hid ((s.row s.act).length = 4) := Lib.hid (by rw [← HS.out.manyAt HOK.out.act, ← HS.out.act, ← HMC.out]; exact hf)
    have HWR : Hid (r.write (p, v) = r.next.down (p, v)) := Lib.hid (by unfold RF.write; rw [if_pos (by rw [← HMC.out]; exact hf)])
    clear hf
    go_wp2_with fail
    clear i0 i1 i2 i3 i4 i5 c4 q4
    go_loopw [7, 8, 9] (fun bx ex ix wr => ∃ k : Nat, k ≤ 6 ∧ ix = .int .i64 (k : Nat) ∧ ex = .int .i64 ((r.emptyTo k).length : Nat) ∧ bx = .int .i64 (r.bestTo k) ∧ FBox zz w wr g r) (fun _ _ ix _ => 6 - (intOf ix).toNat)
    case atStart => exact ⟨0, Nat.zero_le _, rfl, rfl, rfl, HB0.out⟩
    case round =>
      obtain ⟨k, hk, rfl, rfl, rfl, hfb⟩ := hrel
      have HFB := Lib.hid hfb
      obtain ⟨a1, m1, a2, m2, a3, m3, a4, m4, a5, m5, hbx, hrx⟩ := hfb.open'
      obtain ⟨⟨i0, i1, i2, i3, i4, i5⟩, ⟨f0, f1, f2, f3, f4, f5⟩⟩ := cells6 hbx
      have HRX := Lib.hid hrx
      clear hbx hrx hfb
      by_cases hlt : k < 6
      · have q1 : decide ((k : Int) < 6) = true := decide_eq_true (by omega)
        obtain ⟨nk, hnk⟩ : ∃ n, n = r.manyAt k := ⟨_, rfl⟩
        have hrm : r.many[k]? = some nk := by rw [hnk]; unfold RF.manyAt; rw [List.getElem?_eq_getElem (by rw [HMANY.out]; exact hlt)]; rfl
        obtain ⟨b4, o4, rfl, c4, -⟩ := HRX.out.r4.at (natsI_get hrm)
        have s0 : (0 : Int) ≤ (k : Int) := by omega
        have s1 : (k : Int) < (r.many.length : Int) := by rw [HMANY.out]; omega
        have s2 : (k : Int) < (r.er.length : Int) := by rw [HERL.out]; omega
        have hel := emptyTo_len r k
        by_cases hz : nk = 0
        · have q2 : ((nk : Int) == 0) = true := beq_iff_eq.2 (by omega)
          have hmz : r.manyAt k = 0 := by rw [← hnk]; exact hz
          have HEM := Lib.hid (show (r.emptyTo (k + 1)).length = (r.emptyTo k).length + 1 by rw [emptyTo_yes hmz, List.length_append]; rfl)
          obtain ⟨ek, hek⟩ : ∃ n, n = r.erAt k := ⟨_, rfl⟩
          have hre : r.er[k]? = some ek := by rw [hek]; unfold RF.erAt; rw [List.getElem?_eq_getElem (by rw [HERL.out]; exact hlt)]; rfl
          obtain ⟨b5, o5, rfl, c5, -⟩ := HRX.out.r5.at (natsI_get hre)
          obtain ⟨en, hen⟩ : ∃ n, n = (r.emptyTo k).length := ⟨_, rfl⟩
          have hel' : en ≤ k := by omega
          have HEN := Lib.hid hen
          rw [← hen] at HEM ⊢
          clear hel hen
          rcases bestTo_is r k with ⟨h0, hb⟩ | ⟨m, hmk, h0, hb, hpk⟩
          · have HNB := Lib.hid (bestTo_first hmz h0)
            rw [hb]
            clear hnk hrm hz hmz hek hre h0 hb
            go_wp2_with fail
            go_quiet (fail)
            go_wp2_with fail
            go_roundw
            case rel => exact ⟨k + 1, by omega, by go_num, by rw [HEM.out]; go_num, by rw [HNB.out], HFB.out.drewN _⟩
            case measure => simp [intOf]; omega
          · obtain ⟨em, hem⟩ : ∃ n, n = r.erAt m := ⟨_, rfl⟩
            have hrem : r.er[m]? = some em := by rw [hem]; unfold RF.erAt; rw [List.getElem?_eq_getElem (by rw [HERL.out]; omega)]; rfl
            obtain ⟨b6, o6, e6, c6, -⟩ := HRX.out.r5.at (natsI_get hrem)
            cases e6
            have s3 : (0 : Int) ≤ (m : Int) := by omega
            have s4 : (m : Int) < (r.er.length : Int) := by rw [HERL.out]; omega
            have q3 : decide ((m : Int) < 0) = false := decide_eq_false (by omega)
            have hnb := bestTo_next hmz h0 hpk
            rw [← hek, ← hem] at hnb
            rw [hb]
            by_cases hless : ek < em
            · have q5 : decide ((ek : Int) < (em : Int)) = true := decide_eq_true (by omega)
              have q6 : decide (ek < em) = true := decide_eq_true hless
              rw [if_pos hless] at hnb
              have HNB := Lib.hid hnb
              clear hnk hrm hz hmz hek hre h0 hb hpk hem hrem hnb hless
              go_wp2_with fail
              go_quiet (fail)
              go_wp2_with fail
              go_roundw
              case rel => exact ⟨k + 1, by omega, by go_num, by rw [HEM.out]; go_num, by rw [HNB.out], HFB.out.drewN _⟩
              case measure => simp [intOf]; omega
            · have q5 : decide ((ek : Int) < (em : Int)) = false := decide_eq_false (by omega)
              have q6 : decide (ek < em) = false := decide_eq_false hless
              rw [if_neg hless] at hnb
              have HNB := Lib.hid hnb
              clear hnk hrm hz hmz hek hre h0 hb hpk hem hrem hnb hless
              go_wp2_with fail
              go_quiet (fail)
              go_wp2_with fail
              go_roundw
              case rel => exact ⟨k + 1, by omega, by go_num, by rw [HEM.out]; go_num, by rw [HNB.out], HFB.out.drewN _⟩
              case measure => simp [intOf]; omega
        · have q2 : ((nk : Int) == 0) = false := beq_eq_false_iff_ne.2 (by omega)
          have hmz : r.manyAt k ≠ 0 := by rw [← hnk]; exact hz
          have HEM := Lib.hid (emptyTo_no hmz)
          have HNB := Lib.hid (bestTo_no hmz)
          clear hnk hrm hz hmz hel
          go_wp2_with fail
          go_roundw
          case rel => exact ⟨k + 1, by omega, by go_num, by rw [HEM.out], by rw [HNB.out], HFB.out⟩
          case measure => simp [intOf]; omega
      · obtain rfl : k = 6 := by omega
        have q1 : decide (((6 : Nat) : Int) < 6) = false := rfl
        obtain ⟨hb6, hbb⟩ := HS.out.bestSix HOK.out
        rw [hb6]
        obtain ⟨bb, hbbd⟩ : ∃ b, b = r.best := ⟨_, rfl⟩
        rw [← hbbd] at hbb ⊢
        have HBB := Lib.hid hbbd
        obtain ⟨ne, hne⟩ : ∃ n, n = (r.emptyTo 6).length := ⟨_, rfl⟩
        have hne6 : ne ≤ 6 := by rw [hne]; exact emptyTo_len r 6
        rw [← hne]
        have HNE := Lib.hid hne
        have HFA := Lib.hid (HFB.out.setAct bb)
        clear hb6 hbbd hne
        by_cases he : ne = 1
        rotate_left
        · have q2 : ((ne : Int) == 1) = false := beq_eq_false_iff_ne.2 (by omega)
          have hnx : r.next = { r with act := bb } := by unfold RF.next; rw [if_neg (by rw [← HNE.out]; exact he), ← HBB.out]
          obtain ⟨x, hx⟩ : ∃ x : RF, x = { r with act := bb } := ⟨_, rfl⟩
          have HFIN : Hid (r.write (p, v) = x.down (p, v)) := Lib.hid (by rw [HWR.out, hnx, hx])
          rw [← hx] at HFA
          have HX1 : Hid (x.L.length ≤ 1000) := Lib.hid (by rw [hx]; show r.L.length ≤ 1000; omega)
          have HX2 : Hid (x.many.length = 6) := Lib.hid (by rw [hx]; exact HMANY.out)
          have HX3 : Hid (x.act < 6) := Lib.hid (by rw [hx]; exact hbb)
          have HX4 : Hid (x.manyAt x.act ≤ 1000) := Lib.hid (by
            have h1 := HOK.out.small bb
            rw [← HS.out.manyAt hbb] at h1
            rw [hx]
            show r.manyAt bb ≤ 1000
            omega)
          clear he hnx hx
          go_upto_region 31 with fail
          clear i0 i1 i2 i3 i4 i5 f0 f1 f2 f3 f4 f5 HFB
          obtain ⟨w2, hw2⟩ : ∃ x, x = wr.setCell ⟨g, 5, none⟩ (.int .i64 (bb : Nat)) := ⟨_, rfl⟩
          rw [← hw2] at HFA ⊢
          have HBX := HFA
          clear HFA hw2
          obtain ⟨a1, m1, a2, m2, a3, m3, a4, m4, a5, m5, hbx, hrx⟩ := HBX.out.open'
          obtain ⟨⟨i0, i1, i2, i3, i4, i5⟩, -⟩ := cells6 hbx
          have HRX := Lib.hid hrx
          clear hbx hrx
          go_wp2_with fail
          refine (rdown_walk w2 _ _ _ _ _ x p v HRX.out HX1.out HX2.out HX3.out HX4.out (Nat.le_trans HZW.out HBX.out.below.size)).mono ?_
          rintro _ w5 ⟨⟨u1, u2, u3, u4, u5, rfl, hr5⟩, hb5⟩
          obtain ⟨c1, k1, e1, rfl, -⟩ := hr5.r1.sl
          obtain ⟨c2, k2, e2, rfl, -⟩ := hr5.r2.sl
          obtain ⟨c3, k3, e3, rfl, -⟩ := hr5.r3.sl
          obtain ⟨c4, k4, e4, rfl, -⟩ := hr5.r4.sl
          obtain ⟨c5, k5, e5, rfl, -⟩ := hr5.r5.sl
          have HR5 := Lib.hid hr5
          have HZ5 := Lib.hid ((hb5.block _ (lt_of_heap HBX.out.res)).trans HBX.out.res)
          have HB5 := Lib.hid (HBX.out.below.trans (hb5.mono HBX.out.below.size))
          obtain ⟨⟨j0, j1, j2, j3, j4, j5⟩, ⟨y0, y1, y2, y3, y4, y5⟩⟩ := cells6 HZ5.out
          clear hr5 hb5 i0 i1 i2 i3 i4 i5
          unfold frV
          go_wp2_with fail
          refine bodyPost_ret (results_row1 rfl rfl (load_flash (fill6 HZ5.out _ _ _ _ _ _))) rfl ⟨⟨.slice c1 k1 e1, .slice c2 k2 e2, .slice c3 k3 e3, .slice c4 k4 e4, .slice c5 k5 e5, ?_, ?_⟩, ?_⟩
          rotate_left
          · rw [HFIN.out]
            have q0 := heap_setCell_same _ (g + 1) 0 _ _ (.slice c1 k1 e1) HZ5.out
            have q1 := heap_setCell_same _ (g + 1) 1 _ _ (.slice c2 k2 e2) q0
            have q2 := heap_setCell_same _ (g + 1) 2 _ _ (.slice c3 k3 e3) q1
            have q3 := heap_setCell_same _ (g + 1) 3 _ _ (.slice c4 k4 e4) q2
            have q4 := heap_setCell_same _ (g + 1) 4 _ _ (.slice c5 k5 e5) q3
            exact (((((HR5.out.set HZ5.out).set q0).set q1).set q2).set q3).set q4
          · have hg : w.heap.size ≤ g := HBX.out.lo
            exact (((((HB5.out.setCell (p := ⟨g + 1, 0, none⟩) (by simp only; omega) _).setCell (p := ⟨g + 1, 1, none⟩) (by simp only; omega) _).setCell (p := ⟨g + 1, 2, none⟩) (by simp only; omega) _).setCell (p := ⟨g + 1, 3, none⟩) (by simp only; omega) _).setCell (p := ⟨g + 1, 4, none⟩) (by simp only; omega) _).setCell (p := ⟨g + 1, 5, none⟩) (by simp only; omega) _
          · rw [HFIN.out]
            rfl
        · have q2 : ((ne : Int) == 1) = true := beq_iff_eq.2 (by omega)
          have HNX : Hid (r.next = (r.moved (liveOf r.L r.gone).length).marked r.gone) := Lib.hid (by unfold RF.next; rw [if_pos (by rw [← HNE.out]; exact he)])
          have HEL : Hid (s.empties.length ≤ 1) := Lib.hid (by rw [← HS.out.empties, ← HNE.out]; omega)
          obtain ⟨x, hx⟩ : ∃ x : RF, x = { r with act := bb } := ⟨_, rfl⟩
          rw [← hx] at HFA
          have HXL : Hid (x.L = r.L) := Lib.hid (by rw [hx])
          have HXM : Hid (x.many = r.many) := Lib.hid (by rw [hx])
          have HXE : Hid (x.er = r.er) := Lib.hid (by rw [hx])
          have HXA : Hid (x.act = bb) := Lib.hid (by rw [hx])
          clear he
          go_upto_region 13 with fail
          obtain ⟨w2, hw2⟩ : ∃ y, y = wr.setCell ⟨g, 5, none⟩ (.int .i64 (bb : Nat)) := ⟨_, rfl⟩
          rw [← hw2] at HFA ⊢
          clear hw2 i0 i1 i2 i3 i4 i5 f0 f1 f2 f3 f4 f5 HFB HRX hx q2
          go_wp2_with fail
          go_loopw [10, 11] (fun gx ix wr => ∃ k : Nat, k ≤ 6 ∧ ix = .int .i64 (k : Nat) ∧ gx = .int .i64 (goneTo r.L r.best k) ∧ FBox zz w wr g x) (fun _ ix _ => 6 - (intOf ix).toNat)
          case atStart => exact ⟨0, Nat.zero_le _, rfl, rfl, HFA.out⟩
          case round =>
            obtain ⟨k, hk, rfl, rfl, hfb⟩ := hrel
            have HFB := Lib.hid hfb
            by_cases hlt : k < 6
            · have q1 : decide ((k : Int) < 6) = true := decide_eq_true (by omega)
              have hgt : ∀ c : Int, goneTo r.L r.best (k + 1) = (if k ≠ r.best ∧ (goneTo r.L r.best k < 0 ∨ (liveOf r.L k).length < (liveOf r.L (goneTo r.L r.best k).toNat).length) then (k : Int) else goneTo r.L r.best k) := fun _ => rfl
              have hgt := hgt 0
              rw [← HBB.out] at hgt
              by_cases hkb : k = bb
              · have q2 : ((k : Int) != (bb : Int)) = false := bne_eq_false_iff_eq.2 (by omega)
                rw [if_neg (fun h => h.1 hkb)] at hgt
                have HGT := Lib.hid hgt
                obtain ⟨gv, hgv⟩ : ∃ c, c = goneTo r.L r.best k := ⟨_, rfl⟩
                rw [← HBB.out] at hgv
                rw [← HBB.out, ← hgv]
                have HGV := Lib.hid hgv
                clear hgt hkb hgv hfb
                go_wp2_with fail
                go_quiet (fail)
                go_wp2_with fail
                go_roundw
                case rel => exact ⟨k + 1, by omega, by go_num, by rw [HGT.out, ← HGV.out], HFB.out.drewN _⟩
                case measure => simp [intOf]; omega
              · have q2 : ((k : Int) != (bb : Int)) = true := bne_iff_ne.2 (by omega)
                rcases gone_is HS.out HOK.out k hk with hgk | ⟨m, hmk, hgk⟩
                · rw [← HBB.out] at hgk
                  rw [if_pos ⟨hkb, .inl (by rw [hgk]; omega)⟩] at hgt
                  have HGT := Lib.hid hgt
                  rw [← HBB.out, hgk]
                  clear hgt hkb hgk hfb
                  go_wp2_with fail
                  go_quiet (fail)
                  go_wp2_with fail
                  go_roundw
                  case rel => exact ⟨k + 1, by omega, by go_num, by rw [HGT.out], HFB.out.drewN _⟩
                  case measure => simp [intOf]; omega
                · rw [← HBB.out] at hgk
                  have q3 : decide ((m : Int) < 0) = false := decide_eq_false (by omega)
                  rw [hgk, Int.toNat_natCast] at hgt
                  obtain ⟨lk, hlk⟩ : ∃ n, n = (liveOf r.L k).length := ⟨_, rfl⟩
                  obtain ⟨lm, hlm⟩ : ∃ n, n = (liveOf r.L m).length := ⟨_, rfl⟩
                  rw [← hlk, ← hlm] at hgt
                  have HLK := Lib.hid hlk
                  have HLM := Lib.hid hlm
                  have HGT := Lib.hid hgt
                  rw [← HBB.out, hgk]
                  obtain ⟨a1, m1, a2, m2, a3, m3, a4, m4, a5, m5, hbx, hrx⟩ := hfb.open'
                  obtain ⟨⟨i0, i1, i2, i3, i4, i5⟩, -⟩ := cells6 hbx
                  have hS0 : wr.drew.cell? ⟨g, 0, none⟩ = some (.slice a1 x.L.length m1) ∧ wr.drew.cell? ⟨g, 1, none⟩ = some (.slice a2 x.L.length m2) ∧ wr.drew.cell? ⟨g, 2, none⟩ = some (.slice a3 x.L.length m3) ∧ wr.drew.cell? ⟨g, 3, none⟩ = some (.slice a4 x.many.length m4) ∧ wr.drew.cell? ⟨g, 4, none⟩ = some (.slice a5 x.er.length m5) ∧ wr.drew.cell? ⟨g, 5, none⟩ = some (.int .i64 (x.act : Nat)) ∧ FRIs zz wr.drew (.slice a1 x.L.length m1) (.slice a2 x.L.length m2) (.slice a3 x.L.length m3) (.slice a4 x.many.length m4) (.slice a5 x.er.length m5) x ∧ FBox zz w wr.drew g x := ⟨i0, i1, i2, i3, i4, i5, hrx.below (Below.refl wr.heap.size wr).drew, hfb.later (Below.refl wr.heap.size wr).drew⟩
                  have HLAT := Lib.hid (show ∀ (w4 w5 : World), (w4.cell? ⟨g, 0, none⟩ = some (.slice a1 x.L.length m1) ∧ w4.cell? ⟨g, 1, none⟩ = some (.slice a2 x.L.length m2) ∧ w4.cell? ⟨g, 2, none⟩ = some (.slice a3 x.L.length m3) ∧ w4.cell? ⟨g, 3, none⟩ = some (.slice a4 x.many.length m4) ∧ w4.cell? ⟨g, 4, none⟩ = some (.slice a5 x.er.length m5) ∧ w4.cell? ⟨g, 5, none⟩ = some (.int .i64 (x.act : Nat)) ∧ FRIs zz w4 (.slice a1 x.L.length m1) (.slice a2 x.L.length m2) (.slice a3 x.L.length m3) (.slice a4 x.many.length m4) (.slice a5 x.er.length m5) x ∧ FBox zz w w4 g x) → Below w4.heap.size w4 w5 →
                      (w5.cell? ⟨g, 0, none⟩ = some (.slice a1 x.L.length m1) ∧ w5.cell? ⟨g, 1, none⟩ = some (.slice a2 x.L.length m2) ∧ w5.cell? ⟨g, 2, none⟩ = some (.slice a3 x.L.length m3) ∧ w5.cell? ⟨g, 3, none⟩ = some (.slice a4 x.many.length m4) ∧ w5.cell? ⟨g, 4, none⟩ = some (.slice a5 x.er.length m5) ∧ w5.cell? ⟨g, 5, none⟩ = some (.int .i64 (x.act : Nat)) ∧ FRIs zz w5 (.slice a1 x.L.length m1) (.slice a2 x.L.length m2) (.slice a3 x.L.length m3) (.slice a4 x.many.length m4) (.slice a5 x.er.length m5) x ∧ FBox zz w w5 g x) from by
                    rintro w4 w5 ⟨c0, c1, c2, c3, c4, c5, h6, h7⟩ h8
                    have hg4 : g < w4.heap.size := by obtain ⟨_, _, _, _, _, hq, -⟩ := h7.box; exact lt_of_heap hq
                    exact ⟨by rw [h8.cell (p := ⟨g, 0, none⟩) hg4]; exact c0, by rw [h8.cell (p := ⟨g, 1, none⟩) hg4]; exact c1, by rw [h8.cell (p := ⟨g, 2, none⟩) hg4]; exact c2, by rw [h8.cell (p := ⟨g, 3, none⟩) hg4]; exact c3, by rw [h8.cell (p := ⟨g, 4, none⟩) hg4]; exact c4, by rw [h8.cell (p := ⟨g, 5, none⟩) hg4]; exact c5, h6.below h8, h7.later h8⟩)
                  have H0 := Lib.hid hS0
                  have HCK : Hid (∀ (w4 : World), (w4.cell? ⟨g, 0, none⟩ = some (.slice a1 x.L.length m1) ∧ w4.cell? ⟨g, 1, none⟩ = some (.slice a2 x.L.length m2) ∧ w4.cell? ⟨g, 2, none⟩ = some (.slice a3 x.L.length m3) ∧ w4.cell? ⟨g, 3, none⟩ = some (.slice a4 x.many.length m4) ∧ w4.cell? ⟨g, 4, none⟩ = some (.slice a5 x.er.length m5) ∧ w4.cell? ⟨g, 5, none⟩ = some (.int .i64 (x.act : Nat)) ∧ FRIs zz w4 (.slice a1 x.L.length m1) (.slice a2 x.L.length m2) (.slice a3 x.L.length m3) (.slice a4 x.many.length m4) (.slice a5 x.er.length m5) x ∧ FBox zz w w4 g x) → ∀ b lb : Nat, lb = (liveOf r.L b).length →
                      Calls Tryd.prog 14 #[.agg #[.slice a1 x.L.length m1, .slice a2 x.L.length m2, .slice a3 x.L.length m3, .slice a4 x.many.length m4, .slice a5 x.er.length m5, .int .i64 (x.act : Nat)], .int .i64 (b : Nat)] w4 fun e w5 => ∃ a c, e = .returned (.slice a lb c) ∧ Below w4.heap.size w4 w5) := Lib.hid (by
                    rintro w4 h4 b lb rfl
                    refine (rlive_walk w4 _ _ _ _ _ x x.act b h4.2.2.2.2.2.2.1 (by rw [HXL.out]; omega)).mono ?_
                    rintro e w5 ⟨⟨u, rfl, hu⟩, hb⟩
                    obtain ⟨a, c, rfl⟩ := own_shape' hu
                    exact ⟨a, c, by rw [HXL.out], hb⟩)
                  clear hS0 hbx hrx hfb i0 i1 i2 i3 i4 i5 hgt hkb hgk hlk hlm
                  have hkl : lk ≤ 600 := by rw [HLK.out]; exact Nat.le_trans (liveIn_length _ _ _) hlen
                  have hml : lm ≤ 600 := by rw [HLM.out]; exact Nat.le_trans (liveIn_length _ _ _) hlen
                  go_upto_region 17 with fail
                  go_cut [75] (fun c wx => c = .bool (decide (lk < lm)) ∧ FBox zz w wx g x)
                  case first =>
                    go_region_held3 (fun w' => w'.cell? ⟨g, 0, none⟩ = some (.slice a1 x.L.length m1) ∧ w'.cell? ⟨g, 1, none⟩ = some (.slice a2 x.L.length m2) ∧ w'.cell? ⟨g, 2, none⟩ = some (.slice a3 x.L.length m3) ∧ w'.cell? ⟨g, 3, none⟩ = some (.slice a4 x.many.length m4) ∧ w'.cell? ⟨g, 4, none⟩ = some (.slice a5 x.er.length m5) ∧ w'.cell? ⟨g, 5, none⟩ = some (.int .i64 (x.act : Nat)) ∧ FRIs zz w' (.slice a1 x.L.length m1) (.slice a2 x.L.length m2) (.slice a3 x.L.length m3) (.slice a4 x.many.length m4) (.slice a5 x.er.length m5) x ∧ FBox zz w w' g x)
                      (first
                        | exact HLAT.out _ _ (by assumption) hb6
                        | exact HLAT.out _ _ (by assumption) hb5
                        | exact H0.out
                        | assumption)
                      (first
                        | (have hsecond := hb5; go_at_call 14; refine (HCK.out _ (by assumption) m lm HLM.out).mono ?_; rintro _ w6 ⟨va, vc, rfl, hb6⟩)
                        | (go_at_call 14; refine (HCK.out _ (by assumption) k lk HLK.out).mono ?_; rintro _ w5 ⟨ua, uc, rfl, hb5⟩))
                    all_goals
                      go_wp2_with fail
                      go_meet
                      exact ⟨rfl, And.right (And.right (And.right (And.right (And.right (And.right (And.right (by assumption))))))) ⟩
                  case rest =>
                    obtain ⟨rfl, hfx⟩ := hcut
                    have HFX := Lib.hid hfx
                    clear hfx
                    by_cases hless : lk < lm
                    · rw [decide_eq_true hless]
                      have HGN : Hid (goneTo r.L bb (k + 1) = (k : Int)) := Lib.hid (by
                        rw [HGT.out, if_pos ⟨fun e => by rw [e] at q2; simp at q2, .inr hless⟩])
                      clear hless
                      go_wp2_with fail
                      go_roundw
                      case rel => exact ⟨k + 1, by omega, by go_num, by rw [HGN.out], HFX.out⟩
                      case measure => simp [intOf]; omega
                    · rw [decide_eq_false hless]
                      have HGN : Hid (goneTo r.L bb (k + 1) = (m : Int)) := Lib.hid (by
                        rw [HGT.out, if_neg (fun h => by rcases h.2 with h | h <;> omega)])
                      clear hless
                      go_wp2_with fail
                      go_roundw
                      case rel => exact ⟨k + 1, by omega, by go_num, by rw [HGN.out], HFX.out⟩
                      case measure => simp [intOf]; omega
            · obtain rfl : k = 6 := by omega
              have q1 : decide (((6 : Nat) : Int) < 6) = false := rfl
              obtain ⟨w6, wne, hw6, hl1⟩ := HOK.out.worst_is HF.out HEL.out
              have hgi : goneTo r.L r.best 6 = (r.gone : Int) := by rw [HS.out.goneTo HOK.out 6 (Nat.le_refl _), hw6, HS.out.gone HOK.out]
              rw [← HS.out.gone HOK.out] at w6 wne
              rw [hgi]
              have hln : (liveOf r.L r.gone).length ≤ 1 := by
                rw [HS.out.gone HOK.out] at w6 ⊢
                rw [HS.out.liveN HOK.out w6, ← turn_live]
                exact hl1
              obtain ⟨gn, hgn⟩ : ∃ n, n = r.gone := ⟨_, rfl⟩
              rw [← hgn] at w6 wne hln HNX ⊢
              rw [← HS.out.best, ← HBB.out] at wne
              have HGN := Lib.hid hgn
              obtain ⟨a1, m1, a2, m2, a3, m3, a4, m4, a5, m5, hbx, hrx⟩ := hfb.open'
              obtain ⟨⟨i0, i1, i2, i3, i4, i5⟩, -⟩ := cells6 hbx
              have HRX := Lib.hid hrx
              clear hw6 hl1 hgi hgn hbx hrx hfb
              go_wp2_with fail
              refine (rlive_walk wr _ _ _ _ _ x x.act gn HRX.out (by rw [HXL.out]; omega)).mono ?_
              rintro _ w7 ⟨⟨lv, rfl, hlv⟩, hb7⟩
              have hiv := IV.own hlv (Nat.le_trans HZW.out HFB.out.below.size)
              rw [HXL.out] at hiv
              obtain ⟨la, nl, lc, rfl, hnl⟩ := hiv.sl
              rw [natsI_length] at hnl
              have hnl1 : nl ≤ 1 := by omega
              have HNL := Lib.hid hnl
              have HLV7 := Lib.hid hiv
              have HF7 := Lib.hid (HFB.out.later hb7)
              clear hiv hlv hnl hln i0 i1 i2 i3 i4 i5 HFB HRX hb7
              obtain ⟨a1, m1, a2, m2, a3, m3, a4, m4, a5, m5, hbx, hrx⟩ := HF7.out.open'
              obtain ⟨⟨i0, i1, i2, i3, i4, i5⟩, -⟩ := cells6 hbx
              have HRX := Lib.hid hrx
              clear hbx hrx
              go_wp2_with fail
              refine (set_iv _ (natsI x.many) gn 0 w7 HRX.out.r4 (by rw [natsI_length, HXM.out, HMANY.out]; exact w6) (by rw [natsI_length, HXM.out, HMANY.out]; omega) (Nat.le_trans HZW.out HF7.out.below.size)).mono ?_
              rintro _ w8 ⟨⟨b8, k8, rfl, h8⟩, hb8⟩
              rw [natsI_length] at h8 ⊢
              have h8' : IV zz w8 (.slice (some ⟨b8, 0, none⟩) x.many.length k8) (natsI (r.many.set gn 0)) := by rw [natsI_set, ← HXM.out]; exact h8
              have HV8 := Lib.hid h8'
              have HF8 := Lib.hid (HF7.out.later hb8)
              have HLV8 := Lib.hid (HLV7.out.below hb8)
              clear h8 h8' hb8 i0 i1 i2 i3 i4 i5 HRX HF7 HLV7
              obtain ⟨a1, m1, a2, m2, a3, m3, a4, m4, a5, m5, hbx, hrx⟩ := HF8.out.open'
              obtain ⟨⟨i0, i1, i2, i3, i4, i5⟩, ⟨f0, f1, f2, f3, f4, f5⟩⟩ := cells6 hbx
              have HBX8 := Lib.hid hbx
              clear hbx hrx
              go_upto_region 21 with fail
              have hf9 := HF8.out.setMany HV8.out
              have hl9 := HLV8.out.set (o := 3) (u := .slice (some ⟨b8, 0, none⟩) x.many.length k8) HBX8.out (by decide)
              obtain ⟨w9, hw9⟩ : ∃ y, y = w8.setCell ⟨g, 3, none⟩ (.slice (some ⟨b8, 0, none⟩) x.many.length k8) := ⟨_, rfl⟩
              rw [← hw9] at hf9 hl9 ⊢
              obtain ⟨y, hy⟩ : ∃ y : RF, y = { x with many := r.many.set gn 0 } := ⟨_, rfl⟩
              rw [← hy] at hf9
              have HYL : Hid (y.L = r.L) := Lib.hid (by rw [hy]; exact HXL.out)
              have HYM : Hid (y.many = r.many.set gn 0) := Lib.hid (by rw [hy])
              have HYE : Hid (y.er = r.er) := Lib.hid (by rw [hy]; exact HXE.out)
              have HYA : Hid (y.act = bb) := Lib.hid (by rw [hy]; exact HXA.out)
              have HF9 := Lib.hid hf9
              have HLV9 := Lib.hid hl9
              clear hf9 hl9 hw9 i0 i1 i2 i3 i4 i5 f0 f1 f2 f3 f4 f5 HF8 HLV8 HV8 HBX8 hy
              obtain ⟨a1, m1, a2, m2, a3, m3, a4, m4, a5, m5, hbx, hrx⟩ := HF9.out.open'
              obtain ⟨⟨i0, i1, i2, i3, i4, i5⟩, -⟩ := cells6 hbx
              obtain ⟨eg, heg⟩ : ∃ n, n = r.erAt gn := ⟨_, rfl⟩
              have hreg : y.er[gn]? = some eg := by rw [HYE.out, heg]; unfold RF.erAt; rw [List.getElem?_eq_getElem (by rw [HERL.out]; exact w6)]; rfl
              obtain ⟨b5, o5, rfl, c5, -⟩ := hrx.r5.at (natsI_get hreg)
              have heg6 : eg ≤ 999999 := by rw [heg, HS.out.erAt]; exact HM.out gn
              have HEG := Lib.hid heg
              have HRX := Lib.hid hrx
              have s0 : (0 : Int) ≤ (gn : Int) := by omega
              have s1 : (gn : Int) < (y.er.length : Int) := by rw [HYE.out, HERL.out]; omega
              have s2 : IntKind.i64.wrap ((eg : Int) + 1) = ((eg + 1 : Nat) : Int) := by rw [IntWalk.i64_in _ (by omega)]; omega
              clear hbx hrx hreg heg
              go_still_tail 9, (by kernel_rfl)
              change wpList _ _ _ _ _ w9.drew
              go_wp2_with fail
              refine (set_iv _ (natsI y.er) gn ((eg + 1 : Nat) : Int) w9.drew (HRX.out.r5.below (Below.refl w9.heap.size w9).drew) (by rw [natsI_length, HYE.out, HERL.out]; exact w6) (by rw [natsI_length, HYE.out, HERL.out]; omega) (Nat.le_trans HZW.out HF9.out.below.size)).mono ?_
              rintro _ w10 ⟨⟨b10, k10, rfl, h10⟩, hb10⟩
              rw [natsI_length] at h10 ⊢
              have hb910 : Below w9.heap.size w9 w10 := (Below.refl w9.heap.size w9).drew.trans hb10
              have h10' : IV zz w10 (.slice (some ⟨b10, 0, none⟩) y.er.length k10) (natsI (r.er.set gn (eg + 1))) := by rw [natsI_set, ← HYE.out]; exact h10
              have HV10 := Lib.hid h10'
              have HF10 := Lib.hid (HF9.out.later hb910)
              have HLV10 := Lib.hid (HLV9.out.below hb910)
              clear h10 h10' hb10 hb910 i0 i1 i2 i3 i4 i5 c5 HRX HF9 HLV9 s0 s1 s2
              obtain ⟨a1, m1, a2, m2, a3, m3, a4, m4, a5, m5, hbx, hrx⟩ := HF10.out.open'
              obtain ⟨⟨i0, i1, i2, i3, i4, i5⟩, ⟨f0, f1, f2, f3, f4, f5⟩⟩ := cells6 hbx
              have HBX10 := Lib.hid hbx
              clear hbx hrx
              go_upto_region 22 with fail
              have hf11 := HF10.out.setEr HV10.out
              have hl11 := HLV10.out.set (o := 4) (u := .slice (some ⟨b10, 0, none⟩) y.er.length k10) HBX10.out (by decide)
              obtain ⟨w11, hw11⟩ : ∃ y', y' = w10.setCell ⟨g, 4, none⟩ (.slice (some ⟨b10, 0, none⟩) y.er.length k10) := ⟨_, rfl⟩
              rw [← hw11] at hf11 hl11 ⊢
              obtain ⟨z, hz⟩ : ∃ z : RF, z = r.cleared gn := ⟨_, rfl⟩
              have hyz : ({ y with er := r.er.set gn (eg + 1) } : RF) = z := by
                rw [hz]
                unfold RF.cleared
                rw [← HEG.out, ← HBB.out, ← HYL.out, ← HYM.out, ← HYA.out]
              rw [hyz] at hf11
              have HF11 := Lib.hid hf11
              have HLV11 := Lib.hid hl11
              have HZL : Hid (z.L = r.L) := Lib.hid (by rw [hz]; rfl)
              have HZM : Hid (z.many = r.many.set gn 0) := Lib.hid (by rw [hz]; rfl)
              have HZA : Hid (z.act = bb) := Lib.hid (by rw [hz, HBB.out]; rfl)
              have HZ := Lib.hid hz
              clear hf11 hl11 hw11 hyz hz i0 i1 i2 i3 i4 i5 f0 f1 f2 f3 f4 f5 HF10 HLV10 HV10 HBX10 HYL HYM HYE HYA HXL HXM HXE HXA
              have HMV0 : Hid (r.moved 0 = z) := Lib.hid (by unfold RF.moved; rw [List.take_zero, HZ.out, HGN.out]; rfl)
              go_wp2_with fail
              go_loopw [13] (fun ix wr => ∃ k : Nat, k ≤ nl ∧ ix = .int .i64 (k : Nat) ∧ FBox zz w wr g (r.moved k) ∧ (k = 0 → wr = w11)) (fun ix _ => nl - (intOf ix).toNat)
              case atStart => exact ⟨0, Nat.zero_le _, rfl, by rw [HMV0.out]; exact HF11.out, fun _ => rfl⟩
              case round =>
                obtain ⟨k, hk, rfl, hfk, hw0⟩ := hrel
                have HFK := Lib.hid hfk
                by_cases hlt : k < nl
                · obtain rfl : k = 0 := by omega
                  obtain rfl := (hw0 rfl).symm
                  have q3 : decide ((0 : Int) < (nl : Int)) = true := decide_eq_true (by omega)
                  have q3' : decide (0 < nl) = true := decide_eq_true hlt
                  obtain ⟨i, hi⟩ : ∃ i, (liveOf r.L gn)[0]? = some i := ⟨_, List.getElem?_eq_getElem (by have := HNL.out; omega)⟩
                  have hil := (liveIn_mem (List.mem_of_getElem? hi)).1
                  obtain ⟨e, he⟩ : ∃ e, z.L[i]? = some e := ⟨_, List.getElem?_eq_getElem (by rw [HZL.out]; exact hil)⟩
                  have HMV1 : Hid (r.moved 1 = z.down e.2) := Lib.hid (by
                    unfold RF.moved
                    rw [← HGN.out, ← HZ.out]
                    have h1 : (liveOf r.L gn).take 1 = [i] := by
                      rw [List.take_add_one, hi]
                      rfl
                    have h2 : pageAt r.L i = e.2 := by unfold pageAt; rw [← HZL.out, he]; rfl
                    rw [h1, List.map_singleton, h2]
                    rfl)
                  obtain ⟨bl, ol, rfl, cl, -⟩ := HLV11.out.at (natsI_get hi)
                  obtain ⟨a1, m1, a2, m2, a3, m3, a4, m4, a5, m5, hbx, hrx⟩ := HF11.out.open'
                  obtain ⟨⟨i0, i1, i2, i3, i4, i5⟩, -⟩ := cells6 hbx
                  obtain ⟨b2, o2, rfl, c2, -⟩ := hrx.r2.at (show (z.L.map fun e => (e.2.1 : Int))[i]? = some (e.2.1 : Int) by rw [List.getElem?_map, he]; rfl)
                  obtain ⟨b3, o3, rfl, c3, -⟩ := hrx.r3.at (show (z.L.map fun e => e.2.2)[i]? = some e.2.2 by rw [List.getElem?_map, he]; rfl)
                  have HRX := Lib.hid hrx
                  have s0 : (0 : Int) ≤ (i : Int) := by omega
                  have s1 : (i : Int) < (z.L.length : Int) := by rw [HZL.out]; omega
                  have hzm : z.manyAt z.act ≤ 1000 := by
                    unfold RF.manyAt
                    rw [HZA.out, HZM.out, List.getElem?_set_ne wne]
                    have h1 := HOK.out.small bb
                    rw [← HS.out.manyAt hbb] at h1
                    unfold RF.manyAt at h1
                    omega
                  have HZMA := Lib.hid hzm
                  obtain ⟨⟨pg, pv⟩, hpe⟩ : ∃ q, q = e.2 := ⟨_, rfl⟩
                  rw [← hpe] at c2 c3 HMV1
                  clear hfk hw0 hi hil he hbx hrx hzm hpe
                  simp only [Nat.add_zero] at cl
                  go_wp2_with fail
                  go_still_tail 17, (by kernel_rfl)
                  change wpList _ _ _ _ _ w11.drew
                  go_wp2_with fail
                  refine (rdown_walk w11.drew _ _ _ _ _ z pg pv (HRX.out.below (Below.refl w11.heap.size w11).drew) (by rw [HZL.out]; omega) (by rw [HZM.out, List.length_set]; exact HMANY.out) (by rw [HZA.out]; exact hbb) HZMA.out (Nat.le_trans HZW.out HF11.out.below.size)).mono ?_
                  rintro _ w12 ⟨⟨u1, u2, u3, u4, u5, rfl, hr12⟩, hb12⟩
                  obtain ⟨d1, k1, e1, rfl, -⟩ := hr12.r1.sl
                  obtain ⟨d2, k2, e2, rfl, -⟩ := hr12.r2.sl
                  obtain ⟨d3, k3, e3, rfl, -⟩ := hr12.r3.sl
                  obtain ⟨d4, k4, e4, rfl, -⟩ := hr12.r4.sl
                  obtain ⟨d5, k5, e5, rfl, -⟩ := hr12.r5.sl
                  have hb112 : Below w11.heap.size w11 w12 := (Below.refl w11.heap.size w11).drew.trans hb12
                  have HF12 := Lib.hid (HF11.out.later hb112)
                  have HR12 := Lib.hid hr12
                  clear hr12 hb12 hb112 i0 i1 i2 i3 i4 i5 c2 c3 cl
                  obtain ⟨_, _, _, _, _, _, _, _, _, _, hbx, -⟩ := HF12.out.open'
                  obtain ⟨⟨i0, i1, i2, i3, i4, i5⟩, ⟨f0, f1, f2, f3, f4, f5⟩⟩ := cells6 hbx
                  clear hbx
                  unfold frV
                  go_wp2_with fail
                  go_roundw
                  case rel => exact ⟨1, by omega, rfl, by rw [HMV1.out]; exact HF12.out.setAll HR12.out rfl, fun h => by omega⟩
                  case measure => simp [intOf]; omega
                · obtain rfl : k = nl := by omega
                  have q3 : decide (k < k) = false := decide_eq_false (Nat.lt_irrefl _)
                  obtain ⟨y, hy⟩ : ∃ y : RF, y = r.moved k := ⟨_, rfl⟩
                  rw [← hy] at HFK
                  have HNX2 : Hid (r.next = y.marked gn) := Lib.hid (by rw [HNX.out, ← HNL.out, ← hy])
                  have hyp : y.L.length ≤ 700 ∧ y.many.length = 6 ∧ y.act = bb ∧ y.manyAt y.act ≤ 1000 := by
                    have hk01 : k = 0 ∨ k = 1 := by omega
                    have hz0 : z.manyAt bb ≤ 4 := by
                      unfold RF.manyAt
                      rw [HZM.out, List.getElem?_set_ne wne]
                      have h1 := HOK.out.small bb
                      rw [← HS.out.manyAt hbb] at h1
                      unfold RF.manyAt at h1
                      exact h1
                    rcases hk01 with rfl | rfl
                    · rw [hy, HMV0.out]
                      exact ⟨by rw [HZL.out]; omega, by rw [HZM.out, List.length_set]; exact HMANY.out, HZA.out, by rw [HZA.out]; omega⟩
                    · have h1 : ∃ q, r.moved 1 = z.down q := by
                        unfold RF.moved
                        rw [← HGN.out, ← HZ.out]
                        obtain ⟨i, hi⟩ : ∃ i, (liveOf r.L gn)[0]? = some i := ⟨_, List.getElem?_eq_getElem (by have := HNL.out; omega)⟩
                        refine ⟨pageAt r.L i, ?_⟩
                        have h1 : (liveOf r.L gn).take 1 = [i] := by
                          rw [List.take_add_one, hi]
                          rfl
                        rw [h1, List.map_singleton]
                        rfl
                      obtain ⟨q, h1⟩ := h1
                      rw [hy, h1]
                      refine ⟨?_, ?_, HZA.out, ?_⟩
                      · show (z.L ++ [_]).length ≤ 700
                        rw [List.length_append, List.length_singleton, HZL.out]
                        omega
                      · show (z.many.set z.act _).length = 6
                        rw [List.length_set, HZM.out, List.length_set]
                        exact HMANY.out
                      · show ((z.many.set z.act (z.manyAt z.act + 1))[z.act]?).getD 0 ≤ 1000
                        rw [List.getElem?_set_self (by rw [HZM.out, List.length_set, HMANY.out, HZA.out]; exact hbb)]
                        show z.manyAt z.act + 1 ≤ 1000
                        rw [HZA.out]
                        omega
                  have HY := Lib.hid hyp
                  have hyl := hyp.1
                  clear hfk hw0 hy hyp
                  go_wp2_with fail
                  go_loopw [14] (fun ix wr => ∃ j : Nat, j ≤ y.L.length ∧ ix = .int .i64 (j : Nat) ∧ FBox zz w wr g { y with L := markTo gn j y.L }) (fun ix _ => y.L.length - (intOf ix).toNat)
                  case atStart => exact ⟨0, Nat.zero_le _, rfl, HFK.out⟩
                  case round =>
                    obtain ⟨j, hj, rfl, hfj⟩ := hrel
                    obtain ⟨M, hM⟩ : ∃ M, M = markTo gn j y.L := ⟨_, rfl⟩
                    rw [← hM] at hfj
                    have hMl : M.length = y.L.length := by rw [hM, markTo_len]
                    obtain ⟨x, hx⟩ : ∃ x : RF, x = { y with L := M } := ⟨_, rfl⟩
                    rw [← hx] at hfj
                    have hxl : x.L = M := by rw [hx]
                    have HXL := Lib.hid hxl
                    have HMM := Lib.hid hM
                    have HML := Lib.hid hMl
                    have HXX := Lib.hid hx
                    have HFJ := Lib.hid hfj
                    obtain ⟨a1, m1, a2, m2, a3, m3, a4, m4, a5, m5, hbx, hrx⟩ := hfj.open'
                    obtain ⟨⟨i0, i1, i2, i3, i4, i5⟩, ⟨f0, f1, f2, f3, f4, f5⟩⟩ := cells6 hbx
                    have HRX := Lib.hid hrx
                    clear hbx hrx hfj hM hMl hx hxl
                    have hxyl : x.L.length = y.L.length := by rw [HXL.out, HML.out]
                    by_cases hlt : j < y.L.length
                    · have q4 : decide ((j : Int) < (x.L.length : Int)) = true := decide_eq_true (by omega)
                      have q4' : decide (j < x.L.length) = true := decide_eq_true (by omega)
                      obtain ⟨e, he⟩ : ∃ e, y.L[j]? = some e := ⟨_, List.getElem?_eq_getElem hlt⟩
                      have hMe : M[j]? = some e := by rw [HMM.out]; exact markTo_at he
                      obtain ⟨b1, o1, rfl, c1, -⟩ := HRX.out.r1.at (show (x.L.map fun e => e.1)[j]? = some e.1 by rw [HXL.out, List.getElem?_map, hMe]; rfl)
                      have s0 : (0 : Int) ≤ (j : Int) := by omega
                      have s1 : (j : Int) < (x.L.length : Int) := by omega
                      have HXYL := Lib.hid hxyl
                      clear hxyl
                      by_cases heg : e.1 = (gn : Int)
                      · have q5 : (e.1 == (gn : Int)) = true := beq_iff_eq.2 heg
                        have HYES := Lib.hid (markTo_yes he heg)
                        clear he hMe heg
                        go_wp2_with fail
                        refine (set_iv _ (x.L.map fun e => e.1) j (-1) wr HRX.out.r1 (by rw [List.length_map]; omega) (by rw [List.length_map, HXYL.out]; omega) (Nat.le_trans HZW.out HFJ.out.below.size)).mono ?_
                        rintro _ w13 ⟨⟨b13, k13, rfl, h13⟩, hb13⟩
                        rw [List.length_map] at h13 ⊢
                        have h13' : IV zz w13 (.slice (some ⟨b13, 0, none⟩) x.L.length k13) ((markTo gn (j + 1) y.L).map fun e => e.1) := by
                          rw [HYES.out, ← HMM.out, ← HXL.out]
                          exact h13
                        have HV13 := Lib.hid h13'
                        have HF13 := Lib.hid (HFJ.out.later hb13)
                        clear h13 h13' hb13 i0 i1 i2 i3 i4 i5 f0 f1 f2 f3 f4 f5 c1
                        obtain ⟨_, _, _, _, _, _, _, _, _, _, hbx, -⟩ := HF13.out.open'
                        obtain ⟨⟨i0, i1, i2, i3, i4, i5⟩, ⟨f0, f1, f2, f3, f4, f5⟩⟩ := cells6 hbx
                        clear hbx
                        go_wp2_with fail
                        go_roundw
                        case rel =>
                          refine ⟨j + 1, by omega, by go_num, ?_⟩
                          have h1 := HF13.out.setBlock HV13.out (by rw [markTo_snd, HXL.out, HMM.out, markTo_snd]) (fun e => by have h2 := markTo_len gn (j + 1) y.L; rw [e] at h2; simp at h2; omega)
                          have h3 : ({ x with L := markTo gn (j + 1) y.L } : RF) = { y with L := markTo gn (j + 1) y.L } := by rw [HXX.out]
                          rw [h3] at h1
                          exact h1
                        case measure => simp [intOf]; omega
                      · have q5 : (e.1 == (gn : Int)) = false := beq_eq_false_iff_ne.2 heg
                        have HNO := Lib.hid (markTo_no he heg)
                        clear he hMe heg
                        go_wp2_with fail
                        go_roundw
                        case rel => exact ⟨j + 1, by omega, by go_num, by rw [HNO.out, ← HMM.out, ← HXX.out]; exact HFJ.out⟩
                        case measure => simp [intOf]; omega
                    · have q4 : decide ((j : Int) < (x.L.length : Int)) = false := decide_eq_false (by omega)
                      have q4' : decide (j < x.L.length) = false := decide_eq_false (by omega)
                      have hje : j = y.L.length := by omega
                      have hxm : x = y.marked gn := by
                        rw [HXX.out, HMM.out, hje, markTo_all]
                        rfl
                      have HFIN : Hid (r.write (p, v) = x.down (p, v)) := Lib.hid (by rw [HWR.out, HNX2.out, hxm])
                      have HX1 : Hid (x.L.length ≤ 1000) := Lib.hid (by omega)
                      have HX2 : Hid (x.many.length = 6) := Lib.hid (by rw [HXX.out]; exact HY.out.2.1)
                      have HX3 : Hid (x.act < 6) := Lib.hid (by rw [HXX.out]; show y.act < 6; rw [HY.out.2.2.1]; exact hbb)
                      have HX4 : Hid (x.manyAt x.act ≤ 1000) := Lib.hid (by rw [HXX.out]; exact HY.out.2.2.2)
                      clear hje hxm hxyl HRX
                      go_upto_region 31 with fail
                      clear i0 i1 i2 i3 i4 i5 f0 f1 f2 f3 f4 f5
                      have HBX := HFJ
                      obtain ⟨a1, m1, a2, m2, a3, m3, a4, m4, a5, m5, hbx, hrx⟩ := HBX.out.open'
                      obtain ⟨⟨i0, i1, i2, i3, i4, i5⟩, -⟩ := cells6 hbx
                      have HRX := Lib.hid hrx
                      clear hbx hrx
                      go_wp2_with fail
                      refine (rdown_walk wr _ _ _ _ _ x p v HRX.out HX1.out HX2.out HX3.out HX4.out (Nat.le_trans HZW.out HBX.out.below.size)).mono ?_
                      rintro _ w5 ⟨⟨u1, u2, u3, u4, u5, rfl, hr5⟩, hb5⟩
                      obtain ⟨c1, k1, e1, rfl, -⟩ := hr5.r1.sl
                      obtain ⟨c2, k2, e2, rfl, -⟩ := hr5.r2.sl
                      obtain ⟨c3, k3, e3, rfl, -⟩ := hr5.r3.sl
                      obtain ⟨c4, k4, e4, rfl, -⟩ := hr5.r4.sl
                      obtain ⟨c5, k5, e5, rfl, -⟩ := hr5.r5.sl
                      have HR5 := Lib.hid hr5
                      have HZ5 := Lib.hid ((hb5.block _ (lt_of_heap HBX.out.res)).trans HBX.out.res)
                      have HB5 := Lib.hid (HBX.out.below.trans (hb5.mono HBX.out.below.size))
                      obtain ⟨⟨j0, j1, j2, j3, j4, j5⟩, ⟨y0, y1, y2, y3, y4, y5⟩⟩ := cells6 HZ5.out
                      clear hr5 hb5 i0 i1 i2 i3 i4 i5
                      unfold frV
                      go_wp2_with fail
                      refine bodyPost_ret (results_row1 rfl rfl (load_flash (fill6 HZ5.out _ _ _ _ _ _))) rfl ⟨⟨.slice c1 k1 e1, .slice c2 k2 e2, .slice c3 k3 e3, .slice c4 k4 e4, .slice c5 k5 e5, ?_, ?_⟩, ?_⟩
                      rotate_left
                      · rw [HFIN.out]
                        have q0 := heap_setCell_same _ (g + 1) 0 _ _ (.slice c1 k1 e1) HZ5.out
                        have q1 := heap_setCell_same _ (g + 1) 1 _ _ (.slice c2 k2 e2) q0
                        have q2 := heap_setCell_same _ (g + 1) 2 _ _ (.slice c3 k3 e3) q1
                        have q3 := heap_setCell_same _ (g + 1) 3 _ _ (.slice c4 k4 e4) q2
                        have q4 := heap_setCell_same _ (g + 1) 4 _ _ (.slice c5 k5 e5) q3
                        exact (((((HR5.out.set HZ5.out).set q0).set q1).set q2).set q3).set q4
                      · have hg : w.heap.size ≤ g := HBX.out.lo
                        exact (((((HB5.out.setCell (p := ⟨g + 1, 0, none⟩) (by simp only; omega) _).setCell (p := ⟨g + 1, 1, none⟩) (by simp only; omega) _).setCell (p := ⟨g + 1, 2, none⟩) (by simp only; omega) _).setCell (p := ⟨g + 1, 3, none⟩) (by simp only; omega) _).setCell (p := ⟨g + 1, 4, none⟩) (by simp only; omega) _).setCell (p := ⟨g + 1, 5, none⟩) (by simp only; omega) _
                      · rw [HFIN.out]
                        rfl

end Go.Proofs.YtegibgflhhdddaaDoor
