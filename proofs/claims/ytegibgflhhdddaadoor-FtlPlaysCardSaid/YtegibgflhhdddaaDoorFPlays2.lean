/- The walk of FtlPlays. -/
import Derived.Test.YtegibgflhhdddaaDoorFPlays
import Derived.Test.YtegibgflhhdddaaDoorReadRows
import Derived.Deep.RegionHeld3
namespace Go.Proofs.YtegibgflhhdddaaDoor
open Go.RowKit Ftl

set_option maxRecDepth 100000 in
set_option maxHeartbeats 20000000 in
theorem fplays_walk (v0 : Value) (W : World) {rs : List (List Int)} (hv0 : RowsArg W v0 rs) (hH : Handled W) :
    Calls Tryd.prog 3 #[v0] W fun e w' => e = .returned (.bool true) ∧ Below W.heap.size W w' := by
  have HV := Lib.hid hv0.1
  have HH := Lib.hid hH
  clear hH hv0
  obtain ⟨la, n, lcap, rfl, hn, hnc, hcm⟩ : ∃ la n lcap, v0 = .slice la n lcap ∧ n = rs.length ∧ n ≤ lcap ∧ lcap ≤ maxLen := by
    obtain ⟨a, cap, h, h1, h2, -⟩ := HV.out
    exact ⟨a, rs.length, cap, h, rfl, h1, h2⟩
  have hnm : n ≤ 9223372036854775807 := by unfold maxLen at hcm; omega
  have HN := Lib.hid hn
  clear hn hnc hcm
  go_enter Tryd.func3, Tryd.ntmps3
  go_wp2_with fail
  refine (fnew_walk _).mono ?_
  rintro _ w1 ⟨rfl, hs1, hb1⟩
  obtain ⟨g, hg⟩ : ∃ g, g = W.heap.size := ⟨_, rfl⟩
  rw [← hg] at hs1 ⊢
  have HS1 := Lib.hid hs1
  have HB1 := Lib.hid hb1
  have hgw : g + 1 ≤ w1.heap.size := hs1.lo.2.2
  have HG := Lib.hid hg
  clear hs1 hb1 hg
  go_wp2_with fail
  refine (rnew_walk (z := g + 1) w1 hgw).mono ?_
  rintro _ w2 ⟨⟨u1, u2, u3, u4, u5, rfl, hr2⟩, hb2⟩
  obtain ⟨c1, k1, e1, rfl, -⟩ := hr2.r1.sl
  obtain ⟨c2, k2, e2, rfl, -⟩ := hr2.r2.sl
  obtain ⟨c3, k3, e3, rfl, -⟩ := hr2.r3.sl
  obtain ⟨c4, k4, e4, rfl, -⟩ := hr2.r4.sl
  obtain ⟨c5, k5, e5, rfl, -⟩ := hr2.r5.sl
  obtain ⟨gx, hgx⟩ : ∃ gx, gx = w2.heap.size := ⟨_, rfl⟩
  have hggx : g < gx := by have := hb2.size; omega
  obtain ⟨W3, hW3⟩ : ∃ W3, W3 = w2.alloc (.cells #[.slice c1 k1 e1, .slice c2 k2 e2, .slice c3 k3 e3, .slice c4 k4 e4, .slice c5 k5 e5, .int .i64 (RF.new.act : Nat)] 27) := ⟨_, rfl⟩
  have hb3 : Below w2.heap.size w2 W3 := by rw [hW3]; exact (Below.refl _ _).alloc (Nat.le_refl _) _
  have HPW : Hid (PW W W3 g gx Fl.new RF.new) := Lib.hid (by
    have hb23 := hb2.trans (hb3.mono hb2.size)
    refine ⟨HS1.out.below hb23, ⟨_, _, _, _, _, ?_, hr2.below hb3⟩, ⟨by rw [HG.out]; exact Nat.le_refl _, hggx⟩, HB1.out.trans (hb23.mono HB1.out.size)⟩
    rw [hW3, hgx]
    exact heap_alloc_new w2 _)
  have hWg : W.heap.size ≤ g := by rw [HG.out]; exact Nat.le_refl _
  have HGX := Lib.hid hgx
  have HW3 := Lib.hid hW3
  clear hr2 hb2 hb3 hgx hW3 HS1 HB1
  unfold frV
  obtain ⟨ac0, hac0⟩ : ∃ a, a = RF.new.act := ⟨_, rfl⟩
  rw [← hac0] at HW3 ⊢
  clear hac0
  go_wp2_with fail
  rw [← HW3.out, ← HGX.out]
  clear HW3 HGX
  go_loopw [5] (fun ix wr => ∃ (j asked : Nat) (s : Fl) (r : RF), j ≤ 100 ∧ asked ≤ j ∧ ix = .int .i64 (j : Nat) ∧ PP s r asked ∧ PW W wr g gx s r) (fun ix _ => 100 - (intOf ix).toNat)
  case atStart => exact ⟨0, 0, Fl.new, RF.new, by omega, by omega, rfl, PP.new, HPW.out⟩
  case round =>
    obtain ⟨j, asked, s, r, hj100, haj, rfl, hpp, hpw⟩ := hrel
    have HPP := Lib.hid hpp
    have HPW := Lib.hid hpw
    have HBW := Lib.hid hpw.below
    have hl200 : r.L.length ≤ 200 := by have := hpp.len; omega
    clear hpp hpw
    by_cases hgo : j < n ∧ j < 100
    · obtain ⟨hlt, h100⟩ := hgo
      have q1 : decide (j < n) = true := decide_eq_true hlt
      have q2 : decide ((j : Int) < 100) = true := decide_eq_true (by omega)
      obtain ⟨rw0, hrw⟩ : ∃ r, rs[j]? = some r := ⟨_, List.getElem?_eq_getElem (by have := HN.out; omega)⟩
      obtain ⟨b0, o0, rv, rfl, hc0, hrv, hb0⟩ := rows_at HV.out hrw
      obtain ⟨ra, rcap, rfl, hrc1, hrc2, hrc3⟩ := hrv
      obtain ⟨ln, hln⟩ : ∃ n, n = rw0.length := ⟨_, rfl⟩
      rw [← hln] at hc0 hrc1
      have hlm : ln ≤ 9223372036854775807 := by unfold maxLen at hrc2; omega
      have hc0w := (HBW.out.cell (p := ⟨b0, o0 + j, none⟩) hb0).trans hc0
      have hj0 : (0 : Int) ≤ (j : Int) := by omega
      have hjn : (j : Int) < (n : Int) := by omega
      by_cases h2 : ln = 2
      rotate_left
      · have q3 : ((ln : Int) != 2) = true := bne_iff_ne.2 (by omega)
        clear hrw hc0 hrc1 hrc2 hrc3 hln h2
        go_wp2_with fail
        go_roundw
        case rel => exact ⟨j + 1, asked, s, r, by omega, by omega, by go_num, HPP.out, HPW.out⟩
        case measure => simp [intOf]; omega
      · subst h2
        have q3 : (((2 : Nat) : Int) != 2) = false := rfl
        obtain ⟨x, hx⟩ : ∃ x, rw0[0]? = some x := ⟨_, List.getElem?_eq_getElem (by omega)⟩
        obtain ⟨y, hy⟩ : ∃ y, rw0[1]? = some y := ⟨_, List.getElem?_eq_getElem (by omega)⟩
        obtain ⟨rb, ro, rfl, hrb, hcx⟩ := hrc3 (by omega)
        have hx0 := hcx 0 x hx
        have hy0 := hcx 1 y hy
        rw [Nat.add_zero] at hx0
        have HROW := Lib.hid (show ∀ w' : World, Below W.heap.size W w' → (w'.cell? ⟨rb, ro, none⟩ = some (.int .i64 x) ∧ w'.cell? ⟨rb, ro + 1, none⟩ = some (.int .i64 y)) from fun w' hb => ⟨(hb.cell (p := ⟨rb, ro, none⟩) hrb).trans hx0, (hb.cell (p := ⟨rb, ro + 1, none⟩) hrb).trans hy0⟩)
        clear hrw hc0 hrc1 hrc2 hrc3 hln hx hy hcx hx0 hy0
        obtain ⟨hx1, hy1⟩ := HROW.out _ HBW.out
        obtain ⟨s2, r2, ee, hcase⟩ : ∃ (s2 : Fl) (r2 : RF) (ee : Nat), (((0 ≤ x ∧ x ≤ 7) ∧ (0 ≤ y ∧ y ≤ 1000)) ∧ s2 = s.write (x.toNat, y) ∧ r2 = r.write (x.toNat, y) ∧ ee = 0) ∨ (¬ ((0 ≤ x ∧ x ≤ 7) ∧ (0 ≤ y ∧ y ≤ 1000)) ∧ s2 = s ∧ r2 = r ∧ ee = 1) := by
          by_cases hin : (0 ≤ x ∧ x ≤ 7) ∧ (0 ≤ y ∧ y ≤ 1000)
          · exact ⟨_, _, 0, .inl ⟨hin, rfl, rfl, rfl⟩⟩
          · exact ⟨_, _, 1, .inr ⟨hin, rfl, rfl, rfl⟩⟩
        have hpp2 : PP s2 r2 (asked + 1) := by
          rcases hcase with ⟨hin, rfl, rfl, -⟩ | ⟨-, rfl, rfl, -⟩
          · exact HPP.out.write (by simp only; omega)
          · exact HPP.out.more
        have HPP2 := Lib.hid hpp2
        have HCASE := Lib.hid hcase
        clear hcase hpp2
        go_upto_region 9 with fail
        go_cut [46] (fun c wx => c = .bool (decide ((0 ≤ x ∧ x ≤ 7) ∧ (0 ≤ y ∧ y ≤ 1000))) ∧ wx = wr)
        case first =>
          go_wp2_with fail
          refine (lawin_any _ _ _ _).mono ?_
          by_cases h1 : 0 ≤ x ∧ x ≤ 7
          · rw [decide_eq_true h1]
            rintro _ w4 ⟨rfl, rfl⟩
            have HD1 := Lib.hid h1
            clear h1
            go_wp2_with fail
            refine (lawin_any _ _ _ _).mono ?_
            by_cases h2 : 0 ≤ y ∧ y ≤ 1000
            · rw [decide_eq_true h2]
              rintro _ w4 ⟨rfl, rfl⟩
              have HD2 := Lib.hid h2
              clear h2
              go_wp2_with fail
              go_meet
              exact ⟨by rw [decide_eq_true ⟨HD1.out, HD2.out⟩], rfl⟩
            · rw [decide_eq_false h2]
              rintro _ w4 ⟨rfl, rfl⟩
              have HD2 := Lib.hid h2
              clear h2
              go_wp2_with fail
              go_meet
              exact ⟨by rw [decide_eq_false (fun h => HD2.out h.2)], rfl⟩
          · rw [decide_eq_false h1]
            rintro _ w4 ⟨rfl, rfl⟩
            have HD1 := Lib.hid h1
            clear h1
            go_wp2_with fail
            go_meet
            exact ⟨by rw [decide_eq_false (fun h => HD1.out h.1)], rfl⟩
        case rest =>
        obtain ⟨rfl, hwc⟩ := hcut
        obtain rfl := hwc.symm
        go_upto_if 46 with fail
        go_cut [7] (fun c7 wx => c7 = .int .i64 (ee : Nat) ∧ PW W wx g gx s r2)
        case first =>
          rcases HCASE.out with ⟨⟨hix, hiy⟩, hs2, hr2, he⟩ | ⟨hnin, hs2, hr2, he⟩
          · rw [decide_eq_true ⟨hix, hiy⟩]
            obtain ⟨p, rfl⟩ : ∃ p : Nat, x = p := ⟨x.toNat, by omega⟩
            rw [Int.toNat_natCast] at hr2
            have HR2 := Lib.hid hr2
            have HE := Lib.hid he
            clear hs2 hr2 he hix hiy
            obtain ⟨a1, m1, a2, m2, a3, m3, a4, m4, a5, m5, hbx, hrx⟩ := HPW.out.open'
            obtain ⟨⟨i0, i1, i2, i3, i4, i5⟩, -⟩ := cells6 hbx
            have HRX := Lib.hid hrx
            clear hbx hrx
            go_wp2_with fail
            go_still_tail 7, (by kernel_rfl)
            change wpList _ _ _ _ _ wr.drew
            go_wp2_with fail
            refine (rwrite_walk (zz := g + 1) wr.drew _ _ _ _ _ s r p y (HRX.out.below (Below.refl wr.heap.size wr).drew) HPP.out.sim HPP.out.ok (HPP.out.times (by omega)) (by omega) (by have h1 := HPW.out.is.lo.2.2; simp only [World.size_drew]; exact h1)).mono ?_
            rintro _ w5 ⟨⟨u1, u2, u3, u4, u5, rfl, hr5⟩, hb5⟩
            obtain ⟨c1, k1, e1, rfl, -⟩ := hr5.r1.sl
            obtain ⟨c2, k2, e2, rfl, -⟩ := hr5.r2.sl
            obtain ⟨c3, k3, e3, rfl, -⟩ := hr5.r3.sl
            obtain ⟨c4, k4, e4, rfl, -⟩ := hr5.r4.sl
            obtain ⟨c5, k5, e5, rfl, -⟩ := hr5.r5.sl
            have hb15 : Below wr.heap.size wr w5 := (Below.refl wr.heap.size wr).drew.trans hb5
            have HPW5 := Lib.hid (HPW.out.later hb15)
            rw [← HR2.out] at hr5 ⊢
            have HR5 := Lib.hid hr5
            clear hr5 hb5 hb15 i0 i1 i2 i3 i4 i5
            obtain ⟨_, _, _, _, _, _, _, _, _, _, hbx, -⟩ := HPW5.out.open'
            obtain ⟨⟨i0, i1, i2, i3, i4, i5⟩, ⟨f0, f1, f2, f3, f4, f5⟩⟩ := cells6 hbx
            clear hbx
            unfold frV
            go_wp2_with fail
            go_meet
            exact ⟨by rw [HE.out]; rfl, HPW5.out.setAll HR5.out rfl⟩
          · rw [decide_eq_false hnin]
            have HR2 := Lib.hid hr2
            have HE := Lib.hid he
            clear hs2 hr2 he hnin
            go_wp2_with fail
            go_meet
            exact ⟨by rw [HE.out]; rfl, by rw [HR2.out]; exact HPW.out⟩
        case rest =>
          obtain ⟨rfl, hpw3⟩ := hcut
          obtain ⟨w3, rfl⟩ : ∃ w3, w3 = wc := ⟨_, rfl⟩
          have HPW3 := Lib.hid hpw3
          clear hpw3 hx1 hy1 hc0w
          go_upto_region 12 with fail
          go_cut [72] (fun c wx => c = .bool false ∧ PW W wx g gx s2 r2)
          case first =>
            obtain ⟨hx3, hy3⟩ := HROW.out _ HPW3.out.below
            obtain ⟨_, _, _, _, _, _, _, _, _, _, hbx3, -⟩ := HPW3.out.open'
            have hact3 := (cells6 hbx3).1.2.2.2.2.2
            have HSS : Hid (∀ w' : World, Below W.heap.size W w' → w'.cell? ⟨gx, 5, none⟩ = some (.int .i64 (r2.act : Nat)) → (w'.cell? ⟨rb, ro, none⟩ = some (.int .i64 x) ∧ w'.cell? ⟨rb, ro + 1, none⟩ = some (.int .i64 y) ∧ w'.cell? ⟨gx, 5, none⟩ = some (.int .i64 (r2.act : Nat)))) := Lib.hid (fun w' hb hc => ⟨(HROW.out _ hb).1, (HROW.out _ hb).2, hc⟩)
            have HA3 := Lib.hid hact3
            have HWRITE : Hid (∀ w4, PW W w4 g gx s r2 → Calls Tryd.prog 11 #[.pointer (some ⟨g, 0, none⟩), .int .i64 x, .int .i64 y] w4 fun e w' => (∃ v, e = .returned v ∧ v = errV (ee : Nat)) ∧ PW W w' g gx s2 r2) := Lib.hid (by
              intro w4 h4
              rcases HCASE.out with ⟨⟨hix, hiy⟩, hs2, hr2, he⟩ | ⟨hnin, hs2, hr2, he⟩
              · obtain ⟨p, rfl⟩ : ∃ p : Nat, x = p := ⟨x.toNat, by omega⟩
                rw [Int.toNat_natCast] at hs2
                refine (fwrite_walk w4 g (g + 1) g s p y h4.is HPP.out.ok (by omega) hiy (HPP.out.times (by omega))).mono ?_
                rintro _ w5 ⟨rfl, hs5, hb5, hk5⟩
                exact ⟨⟨_, rfl, by rw [he]; rfl⟩, by rw [hs2]; exact h4.wrote hs5 hb5 hk5⟩
              · refine (fwrite_no w4 g x y hnin).mono ?_
                rintro _ w5 ⟨rfl, rfl⟩
                exact ⟨⟨_, rfl, by rw [he]; rfl⟩, by rw [hs2]; exact h4⟩)
            have hq : ((s2.act : Int) != (r2.act : Int)) = false := bne_eq_false_iff_eq.2 (by rw [HPP2.out.sim.act])
            clear hbx3 hact3
            go_region_held3 (fun w' => w'.cell? ⟨rb, ro, none⟩ = some (.int .i64 x) ∧ w'.cell? ⟨rb, ro + 1, none⟩ = some (.int .i64 y) ∧ w'.cell? ⟨gx, 5, none⟩ = some (.int .i64 (r2.act : Nat)))
              (first
                | exact HSS.out _ HB8.out HA8.out
                | exact HSS.out _ HB7.out HA7.out
                | exact HSS.out _ HPW3.out.below.drew HA3.out)
              (first
                | (have hthird := HB8; go_at_call 12; refine (active_walk w8 g (g + 1) g s2 HPW8.out.is).mono ?_; rintro _ w9 ⟨rfl, rfl⟩)
                | (have hsecond := HB7; go_at_call 10; refine (err_same (ee : Nat) _ HEV.out w7 (HH.out.below HB7.out)).mono ?_; rintro _ w8 ⟨rfl, hb8⟩; have HPW8 := Lib.hid (HPW7.out.later hb8); have HB8 := Lib.hid HPW8.out.below; have HA8 := Lib.hid HPW8.out.act_cell; clear hb8)
                | (go_at_call 11; refine (HWRITE.out _ (HPW3.out.later (Below.refl w3.heap.size w3).drew)).mono ?_; rintro _ w7 ⟨⟨ev, rfl, hev⟩, hpw7⟩; have HEV := Lib.hid hev; clear hev; have HPW7 := Lib.hid hpw7; have HB7 := Lib.hid hpw7.below; have HA7 := Lib.hid hpw7.act_cell; clear hpw7))
            all_goals
              go_wp2_with fail
              go_meet
              exact ⟨rfl, HPW8.out⟩
          case rest =>
            obtain ⟨rfl, hpw4⟩ := hcut
            obtain ⟨w4, rfl⟩ : ∃ w4, w4 = wc := ⟨_, rfl⟩
            have HPW4 := Lib.hid hpw4
            clear hpw4
            have hl2 : r2.L.length ≤ 300 := by have := HPP2.out.len; omega
            have hml : r2.many.length = 6 := HPP2.out.sim.mlen
            have hel : r2.er.length = 6 := by rw [HPP2.out.sim.er]; exact HPP2.out.ok.elen
            have HML := Lib.hid hml
            have HEL := Lib.hid hel
            clear hml hel
            go_wp2_with fail
            go_loopw [8] (fun ix wr => ∃ k : Nat, k ≤ 6 ∧ ix = .int .i64 (k : Nat) ∧ PW W wr g gx s2 r2) (fun ix _ => 6 - (intOf ix).toNat)
            case atStart => exact ⟨0, Nat.zero_le _, rfl, HPW4.out⟩
            case round =>
              obtain ⟨k, hk, rfl, hpk⟩ := hrel
              have HPK := Lib.hid hpk
              clear hpk
              by_cases hk6 : k < 6
              · have q4 : decide ((k : Int) < 6) = true := decide_eq_true (by omega)
                have HMK := Lib.hid (HPP2.out.sim.many k hk6)
                have HTK : Hid (r2.er[k]? = some (s2.times k)) := Lib.hid (by rw [HPP2.out.sim.er]; unfold Fl.times; rw [List.getElem?_eq_getElem (by rw [HPP2.out.ok.elen]; exact hk6)]; rfl)
                obtain ⟨nk, hnk⟩ : ∃ n, n = (s2.row k).length := ⟨_, rfl⟩
                obtain ⟨lk, hlk⟩ : ∃ n, n = (s2.live k).length := ⟨_, rfl⟩
                obtain ⟨tk, htk⟩ : ∃ n, n = s2.times k := ⟨_, rfl⟩
                have HNK := Lib.hid hnk
                have HLK := Lib.hid hlk
                have HTT := Lib.hid htk
                clear hnk hlk htk
                go_wp2_with fail
                refine (block_walk wr g (g + 1) g s2 k HPK.out.is HPP2.out.ok hk6).mono ?_
                rw [← HNK.out, ← HLK.out, ← HTT.out]
                rintro _ w5 ⟨rfl, hb5⟩
                have HP5 := Lib.hid (HPK.out.later hb5)
                clear hb5
                obtain ⟨a1, m1, a2, m2, a3, m3, a4, m4, a5, m5, hbx, hrx⟩ := HP5.out.open'
                obtain ⟨⟨i0, i1, i2, i3, i4, i5⟩, -⟩ := cells6 hbx
                have hmk := HMK.out
                rw [← HNK.out] at hmk
                have htk := HTK.out
                rw [← HTT.out] at htk
                obtain ⟨b4, o4, rfl, c4, hb4⟩ := hrx.r4.at (natsI_get hmk)
                obtain ⟨b5, o5, rfl, c5, hb5'⟩ := hrx.r5.at (natsI_get htk)
                have hgx5 := lt_of_heap hbx
                have HRX := Lib.hid hrx
                have HF := Lib.hid (And.intro hgx5 (And.intro hb4 hb5'))
                have s0 : (0 : Int) ≤ (k : Int) := by omega
                have s1 : (k : Int) < (r2.many.length : Int) := by rw [HML.out]; omega
                have s2' : (k : Int) < (r2.er.length : Int) := by rw [HEL.out]; omega
                have p1 : ((nk : Int) != (nk : Int)) = false := by simp
                have p2 : ((lk : Int) != (lk : Int)) = false := by simp
                have p3 : ((tk : Int) != (tk : Int)) = false := by simp
                clear hbx hrx hmk htk hgx5 hb4 hb5'
                go_wp2_with fail
                refine (rlive_walk w5 _ _ _ _ _ r2 r2.act k HRX.out (by omega)).mono ?_
                rintro _ w6 ⟨⟨u, rfl, hu⟩, hb6⟩
                obtain ⟨ua, uc, rfl⟩ := own_shape' hu
                obtain ⟨ln, hln⟩ : ∃ n, n = (liveOf r2.L k).length := ⟨_, rfl⟩
                have hlnk : ln = lk := by rw [hln, HLK.out, HPP2.out.sim.liveN HPP2.out.ok hk6]
                rw [← hln, hlnk]
                have j4 := (hb6.cell (p := ⟨gx, 4, none⟩) HF.out.1).trans i4
                have d5 := (hb6.cell (p := ⟨b5, o5 + k, none⟩) HF.out.2.2).trans c5
                have HP6 := Lib.hid (HP5.out.later hb6)
                clear hu hb6 hln hlnk i0 i1 i2 i3 i4 i5 c4 c5
                go_wp2_with fail
                go_roundw
                case rel => exact ⟨k + 1, by omega, by go_num, HP6.out⟩
                case measure => simp [intOf]; omega
              · obtain rfl : k = 6 := by omega
                have q4 : decide (((6 : Nat) : Int) < 6) = false := rfl
                go_wp2_with fail
                go_roundw
                case rel => exact ⟨j + 1, asked + 1, s2, r2, by omega, by omega, by go_num, HPP2.out, HPK.out⟩
                case measure => simp [intOf]; omega
    · have hcase : decide (j < n) = false ∨ (decide (j < n) = true ∧ decide ((j : Int) < 100) = false) := by
        by_cases h : j < n
        · exact .inr ⟨decide_eq_true h, decide_eq_false (by omega)⟩
        · exact .inl (decide_eq_false h)
      clear hgo
      rcases hcase with q1 | ⟨q1, q2⟩
      all_goals
        go_wp2_with fail
        go_loopw [12] (fun ix wr => ∃ k : Nat, k ≤ 8 ∧ ix = .int .i64 (k : Nat) ∧ PW W wr g gx s r) (fun ix _ => 8 - (intOf ix).toNat)
        case atStart => exact ⟨0, by omega, rfl, HPW.out⟩
        case round =>
          obtain ⟨k, hk, rfl, hpk⟩ := hrel
          have HPK := Lib.hid hpk
          clear hpk
          by_cases hlt : k < 8
          · have q3 : decide ((k : Int) < 8) = true := decide_eq_true (by omega)
            obtain ⟨vv, hvv⟩ : ∃ v, v = s.val k := ⟨_, rfl⟩
            have HVV := Lib.hid hvv
            clear hvv
            obtain ⟨a1, m1, a2, m2, a3, m3, a4, m4, a5, m5, hbx, hrx⟩ := HPK.out.open'
            obtain ⟨⟨i0, i1, i2, i3, i4, i5⟩, -⟩ := cells6 hbx
            obtain ⟨lz, hlz⟩ : ∃ z, z = lastOf r.L k := ⟨_, rfl⟩
            have HLZ := Lib.hid hlz
            have HRX := Lib.hid hrx
            clear hbx hrx hlz
            go_wp2_with fail
            refine (rlast_walk wr _ _ _ _ _ r r.act k HRX.out (by omega)).mono ?_
            rw [← HLZ.out]
            rintro _ w5 ⟨rfl, hb5⟩
            have HP5 := Lib.hid (HPK.out.later hb5)
            clear hb5 i0 i1 i2 i3 i4 i5 HRX
            go_upto_if 115 with fail
            go_cut [13] (fun c13 wx => c13 = .int .i64 vv ∧ PW W wx g gx s r)
            case first =>
              rcases HPP.out.sim.val hlt with ⟨hlast, hval⟩ | ⟨i, e, hlast, he, hval⟩
              · obtain rfl : lz = -1 := by rw [HLZ.out, hlast]
                have q4 : decide ((0 : Int) ≤ -1) = false := rfl
                have HVAL := Lib.hid hval
                clear hlast hval
                go_wp2_with fail
                go_meet
                exact ⟨by rw [HVV.out, HVAL.out], HP5.out⟩
              · obtain rfl : lz = (i : Int) := by rw [HLZ.out, hlast]
                have q4 : decide ((0 : Int) ≤ (i : Int)) = true := decide_eq_true (by omega)
                obtain ⟨a1, m1, a2, m2, a3, m3, a4, m4, a5, m5, hbx, hrx⟩ := HP5.out.open'
                obtain ⟨⟨i0, i1, i2, i3, i4, i5⟩, -⟩ := cells6 hbx
                obtain ⟨b3, o3, rfl, c3, hb3⟩ := hrx.r3.at (show (r.L.map fun e => e.2.2)[i]? = some e.2.2 by rw [List.getElem?_map, he]; rfl)
                have hil := (List.getElem?_eq_some_iff.1 he).1
                obtain ⟨ev, hev⟩ : ∃ x, x = e.2.2 := ⟨_, rfl⟩
                rw [← hev] at c3 hval
                have HVAL := Lib.hid hval
                have HF := Lib.hid (And.intro (lt_of_heap hbx) hb3)
                have HR5 := Lib.hid hrx
                have H0 := Lib.hid (show (w5.drew.cell? ⟨gx, 0, none⟩ = some (.slice a1 r.L.length m1) ∧ w5.drew.cell? ⟨gx, 1, none⟩ = some (.slice a2 r.L.length m2) ∧ w5.drew.cell? ⟨gx, 2, none⟩ = some (.slice (some ⟨b3, o3, none⟩) r.L.length m3) ∧ w5.drew.cell? ⟨gx, 3, none⟩ = some (.slice a4 r.many.length m4) ∧ w5.drew.cell? ⟨gx, 4, none⟩ = some (.slice a5 r.er.length m5) ∧ w5.drew.cell? ⟨gx, 5, none⟩ = some (.int .i64 (r.act : Nat)) ∧ w5.drew.cell? ⟨b3, o3 + i, none⟩ = some (.int .i64 ev)) from ⟨i0, i1, i2, i3, i4, i5, c3⟩)
                have HLAT := Lib.hid (show ∀ w6 : World, Below w5.heap.size w5 w6 → (w6.cell? ⟨gx, 0, none⟩ = some (.slice a1 r.L.length m1) ∧ w6.cell? ⟨gx, 1, none⟩ = some (.slice a2 r.L.length m2) ∧ w6.cell? ⟨gx, 2, none⟩ = some (.slice (some ⟨b3, o3, none⟩) r.L.length m3) ∧ w6.cell? ⟨gx, 3, none⟩ = some (.slice a4 r.many.length m4) ∧ w6.cell? ⟨gx, 4, none⟩ = some (.slice a5 r.er.length m5) ∧ w6.cell? ⟨gx, 5, none⟩ = some (.int .i64 (r.act : Nat)) ∧ w6.cell? ⟨b3, o3 + i, none⟩ = some (.int .i64 ev)) from fun w6 hb => by
                  have h1 := HF.out
                  obtain ⟨z0, z1, z2, z3, z4, z5, z6⟩ := H0.out
                  exact ⟨(hb.cell (p := ⟨gx, 0, none⟩) h1.1).trans z0, (hb.cell (p := ⟨gx, 1, none⟩) h1.1).trans z1, (hb.cell (p := ⟨gx, 2, none⟩) h1.1).trans z2, (hb.cell (p := ⟨gx, 3, none⟩) h1.1).trans z3, (hb.cell (p := ⟨gx, 4, none⟩) h1.1).trans z4, (hb.cell (p := ⟨gx, 5, none⟩) h1.1).trans z5, (hb.cell (p := ⟨b3, o3 + i, none⟩) h1.2).trans z6⟩)
                have s0 : (0 : Int) ≤ (i : Int) := by omega
                have s1 : (i : Int) < (r.L.length : Int) := by omega
                have HLW : Hid (Calls Tryd.prog 15 #[.agg #[.slice a1 r.L.length m1, .slice a2 r.L.length m2, .slice (some ⟨b3, o3, none⟩) r.L.length m3, .slice a4 r.many.length m4, .slice a5 r.er.length m5, .int .i64 (r.act : Nat)], .int .i64 (k : Nat)] w5.drew fun e w6 => e = .returned (.int .i64 (i : Nat)) ∧ Below w5.heap.size w5 w6) := Lib.hid (by
                  refine (rlast_walk w5.drew _ _ _ _ _ r r.act k (HR5.out.below (Below.refl w5.heap.size w5).drew) (by omega)).mono ?_
                  rw [hlast]
                  rintro e w6 ⟨rfl, hb6⟩
                  exact ⟨rfl, (Below.refl w5.heap.size w5).drew.trans hb6⟩)
                clear hbx hrx hlast hval he hev hb3 c3 i0 i1 i2 i3 i4 i5
                go_wp2_with fail
                go_region_held3 (fun w' => (w'.cell? ⟨gx, 0, none⟩ = some (.slice a1 r.L.length m1) ∧ w'.cell? ⟨gx, 1, none⟩ = some (.slice a2 r.L.length m2) ∧ w'.cell? ⟨gx, 2, none⟩ = some (.slice (some ⟨b3, o3, none⟩) r.L.length m3) ∧ w'.cell? ⟨gx, 3, none⟩ = some (.slice a4 r.many.length m4) ∧ w'.cell? ⟨gx, 4, none⟩ = some (.slice a5 r.er.length m5) ∧ w'.cell? ⟨gx, 5, none⟩ = some (.int .i64 (r.act : Nat)) ∧ w'.cell? ⟨b3, o3 + i, none⟩ = some (.int .i64 ev)))
                  (first
                    | exact HLAT.out _ HB6.out
                    | exact H0.out)
                  (first
                    | (go_at_call 15; refine HLW.out.mono ?_; rintro _ w6 ⟨rfl, hb6⟩; have HB6 := Lib.hid hb6; clear hb6))
                all_goals
                  go_wp2_with fail
                  go_meet
                  exact ⟨by rw [HVV.out, HVAL.out], HP5.out.later HB6.out⟩
            case rest =>
              obtain ⟨rfl, hpw5⟩ := hcut
              clear HP5
              obtain ⟨w5, rfl⟩ : ∃ w5, w5 = wc := ⟨_, rfl⟩
              have HP5 := Lib.hid hpw5
              clear hpw5
              go_wp2_with fail
              refine (read_walk w5 g (g + 1) g s k HP5.out.is HPP.out.ok hlt).mono ?_
              rw [← HVV.out]
              rintro _ w6 ⟨rfl, hb6⟩
              have HP6 := Lib.hid (HP5.out.later hb6)
              have q4 : (vv != vv) = false := by simp
              clear hb6
              go_wp2_with fail
              go_roundw
              case rel => exact ⟨k + 1, by omega, by go_num, HP6.out⟩
              case measure => simp [intOf]; omega
          · obtain rfl : k = 8 := by omega
            have q3 : decide (((8 : Nat) : Int) < 8) = false := rfl
            go_wp2_with fail
            refine (read_no wr g (-1) (by omega)).mono ?_
            rintro _ w6 ⟨rfl, rfl⟩
            go_wp2_with fail
            refine (err_same 1 _ rfl wr (HH.out.below HPK.out.below)).mono ?_
            rintro _ w7 ⟨rfl, hb7⟩
            have HFIN := Lib.hid (HPK.out.below.trans (hb7.mono HPK.out.below.size))
            clear hb7
            go_wp2_with fail
            go_ret
            exact ⟨rfl, HFIN.out⟩

end Go.Proofs.YtegibgflhhdddaaDoor
