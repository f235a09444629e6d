/- The walk of SnapPlays. -/
import Derived.Test.YtegibgflhhdddaaDoorSPlays
import Derived.Test.YtegibgflhhdddaaDoorReadRows
namespace Go.Proofs.YtegibgflhhdddaaDoor
open Go.RowKit

theorem own_shapeS {w : World} {base : Nat} {e : TypeId} {size : Nat} {v : Value} {n : Nat} {xs : List Value} (h : w.ownsRow base e size v n xs) : ∃ va cap, v = .slice va n cap := by
  rcases h.2 with ⟨rfl, h0⟩ | ⟨g', cap', cur, rfl, -⟩
  · exact ⟨none, 0, by subst h0; rfl⟩
  · exact ⟨_, _, rfl⟩
theorem setP_ok {s : Vol} (h : s.ok) (j : Nat) : (s.setP j 0 false).ok := by
  refine ⟨h.1, fun k => ?_, fun k hk => ?_⟩
  · show (if k = j then 0 else s.p k) < 4294967296
    split
    · omega
    · exact h.2.1 k
  · have hk' : (if k = j then false else s.b k) = false := hk
    show (if k = j then 0 else s.p k) = 0
    split
    · rfl
    · rename_i hne
      rw [if_neg hne] at hk'
      exact h.2.2 k hk'

set_option maxRecDepth 100000 in
set_option maxHeartbeats 20000000 in
theorem splays_walk (v0 : Value) (W : World) {rs : List (List Int)} (hv0 : RowsArg W v0 rs) (hH : Handled W) (hT : Tabled W) :
    Calls Tryd.prog 4 #[v0] W fun e w' => e = .returned (.bool true) ∧ Below W.heap.size W w' := by
  have HV := Lib.hid hv0.1
  have HH := Lib.hid hH
  have HT := Lib.hid hT
  clear hH hv0 hT
  obtain ⟨la, n, lcap, rfl, hn, hnc, hcm⟩ : ∃ la n lcap, v0 = .slice la n lcap ∧ n = rs.length ∧ n ≤ lcap ∧ lcap ≤ maxLen := by
    obtain ⟨a, cap, h, h1, h2, -⟩ := HV.out
    exact ⟨a, rs.length, cap, h, rfl, h1, h2⟩
  have hnm : n ≤ 9223372036854775807 := by unfold maxLen at hcm; omega
  have HN := Lib.hid hn
  clear hn hnc hcm
  go_enter Tryd.func4, Tryd.ntmps4
  go_wp2_with fail
  refine (new_walk _).mono ?_
  rintro _ w1 ⟨rfl, hs1, hb1⟩
  obtain ⟨g, hg⟩ : ∃ g, g = W.heap.size := ⟨_, rfl⟩
  rw [← hg] at hs1 ⊢
  have HS1 := Lib.hid hs1
  have HB1 := Lib.hid hb1
  have hgw : g + 1 ≤ w1.heap.size := hs1.lt
  have HG := Lib.hid hg
  clear hs1 hb1 hg
  go_wp2_with fail
  refine (rnewp_walk (z := g + 1) w1 hgw).mono ?_
  rintro _ w2 ⟨⟨v1, v2, rfl, hi2, hr2⟩, hb2⟩
  obtain ⟨b0, o0, c0, rfl⟩ := hi2.row32
  obtain ⟨b, cap, rfl⟩ := hr2.sl
  obtain ⟨gx, hgx⟩ : ∃ gx, gx = w2.heap.size := ⟨_, rfl⟩
  have hggx : g < gx := by have := hb2.size; omega
  obtain ⟨W3, hW3⟩ : ∃ W3, W3 = w2.alloc (.cells #[.slice (some ⟨b0, o0, none⟩) 32 c0, .slice (some ⟨b, 0, none⟩) 4 cap] 46) := ⟨_, rfl⟩
  have hb3 : Below w2.heap.size w2 W3 := by rw [hW3]; exact (Below.refl _ _).alloc (Nat.le_refl _) _
  have HPS0 : Hid (PS W W3 g gx Vol.new Vol.new) := Lib.hid (by
    have hb23 := hb2.trans (hb3.mono hb2.size)
    refine ⟨HS1.out.below hb23, ⟨_, _, ?_, hi2.below hb3, hr2.below hb3⟩, ⟨by rw [HG.out]; exact Nat.le_refl _, hggx⟩, HB1.out.trans (hb23.mono HB1.out.size)⟩
    rw [hW3, hgx]
    exact heap_alloc_new w2 _)
  have HGX := Lib.hid hgx
  have HW3 := Lib.hid hW3
  clear hi2 hr2 hb2 hb3 hgx hW3 HS1 HB1
  go_wp2_with fail
  rw [← HW3.out, ← HGX.out]
  clear HW3 HGX
  go_loopw [5] (fun ix wr => ∃ (j : Nat) (s : Vol), j ≤ 60 ∧ ix = .int .i64 (j : Nat) ∧ PS W wr g gx s s) (fun ix _ => 60 - (intOf ix).toNat)
  case atStart => exact ⟨0, Vol.new, by omega, rfl, HPS0.out⟩
  case round =>
    obtain ⟨j, s, hj60, rfl, hps⟩ := hrel
    have HPS := Lib.hid hps
    have HBW := Lib.hid hps.below
    clear hps
    by_cases hgo : j < n ∧ j < 60
    · obtain ⟨hlt, h60⟩ := hgo
      have q1 : decide (j < n) = true := decide_eq_true hlt
      have q2 : decide ((j : Int) < 60) = true := decide_eq_true (by omega)
      obtain ⟨l, hl⟩ : ∃ r, rs[j]? = some r := ⟨_, List.getElem?_eq_getElem (by have := HN.out; omega)⟩
      obtain ⟨b0, o0, rv, rfl, hc0, hrv, hb0⟩ := rows_at HV.out hl
      obtain ⟨ra, rcap, rfl, hrc1, hrc2, hrc3⟩ := hrv
      obtain ⟨ln, hln⟩ : ∃ n, n = l.length := ⟨_, rfl⟩
      rw [← hln] at hc0 hrc1
      have hlm : ln ≤ 9223372036854775807 := by unfold maxLen at hrc2; omega
      have hc0w := (HBW.out.cell (p := ⟨b0, o0 + j, none⟩) hb0).trans hc0
      have hj0 : (0 : Int) ≤ (j : Int) := by omega
      have hjn : (j : Int) < (n : Int) := by omega
      have HLN := Lib.hid hln
      have HCELL := Lib.hid (show ∀ (w' : World), Below W.heap.size W w' → ∀ (q : Nat) (x : Int), l[q]? = some x → ∃ rb ro, ra = some ⟨rb, ro, none⟩ ∧ w'.cell? ⟨rb, ro + q, none⟩ = some (.int .i64 x) from fun w' hb q x hx => by
        obtain ⟨rb, ro, e, hlt', hc⟩ := hrc3 (Nat.lt_of_le_of_lt (Nat.zero_le _) (List.getElem?_eq_some_iff.1 hx).1)
        exact ⟨rb, ro, e, (hb.cell (p := ⟨rb, ro + q, none⟩) hlt').trans (hc q x hx)⟩)
      clear hl hc0 hrc1 hrc2 hrc3 hln
      go_upto_block 2 with fail
      clear q1 q2 hc0w
      go_cut [7, 8, 9, 10] (fun e want n er wx => ∃ (ec : Nat) (m : Int) (s' : Vol) (ev : Value), e = .int .i64 (ec : Nat) ∧ want = .int .i64 m ∧ n = .int .i64 m ∧ er = ev ∧ ev = errV (ec : Nat) ∧ PS W wx g gx s' s')
      case first =>
        by_cases h0 : ln = 0
        · subst h0
          have z0 : (((0 : Nat) : Int) == 0) = true := rfl
          have HCUR := HPS
          obtain ⟨b0, o0, c0, b, cap, hbx, hnow, hsr⟩ := HCUR.out.open'
          obtain ⟨⟨i0, i1⟩, ⟨f0, f1⟩⟩ := cells2 hbx
          have HNOW := Lib.hid hnow
          have HSR := Lib.hid hsr
          clear hbx hnow hsr
          go_wp2_with fail
          refine (rfree_walk (z := g + 1) wr _ _ s HPS.out.vol.ok HNOW.out HSR.out).mono ?_
          rintro _ w5 ⟨⟨fv, rfl, hfo⟩, hb5⟩
          have HP5 := Lib.hid (HPS.out.later hb5)
          by_cases hfull : s.all = 4294967295
          · rw [freeTo_full hfull] at hfo
            obtain ⟨fa, fc, rfl⟩ : ∃ fa fc, fv = .slice fa 0 fc := by
              rcases hfo.2 with ⟨rfl, -⟩ | ⟨g', cap', cur, rfl, -⟩
              · exact ⟨none, 0, rfl⟩
              · exact ⟨_, _, rfl⟩
            have HFULL := Lib.hid hfull
            clear hfo hb5 hfull i0 i1 f0 f1
            as_aux_lemma =>
              go_wp2_with fail
              refine (take_full g s w5 HP5.out.vol (HT.out.below HP5.out.below) HFULL.out).mono ?_
              rintro _ w6 ⟨rfl, rfl⟩
              go_wp2_with fail
              go_meet
              exact ⟨4, 0, s, _, rfl, rfl, rfl, rfl, rfl, HP5.out⟩
          · obtain ⟨tl, htl⟩ := freeTo_first HPS.out.vol.ok hfull
            rw [htl] at hfo
            obtain ⟨fb, fc, rfl, hfo'⟩ := own_some hfo (by simp)
            have hc0 := hfo'.cellAt 0 (by simp)
            obtain ⟨fl, hfl⟩ : ∃ n, n = ((s.first : Int) :: tl).length := ⟨_, rfl⟩
            have hfl0 : 0 < fl := by rw [hfl]; simp
            rw [← hfl]
            have hc0' : w5.cell? ⟨fb, 0, none⟩ = some (.int .i64 (s.first : Nat)) := hc0
            have hflm : fl ≤ 32 := by rw [hfl, ← htl]; exact freeTo_le s 32
            have z1 : ((fl : Int) == 0) = false := beq_eq_false_iff_ne.2 (by omega)
            have hpos : (0 : Int) < (fl : Int) := by omega
            have hfi := (first_bits (Vol.all_lt HPS.out.vol.ok) hfull).1
            change s.first < 32 at hfi
            obtain ⟨fi, hfi'⟩ : ∃ n, n = s.first := ⟨_, rfl⟩
            rw [← hfi'] at hfi hc0'
            have HFI := Lib.hid hfi'
            have HFULL := Lib.hid hfull
            have HNOW5 := Lib.hid (HNOW.out.below hb5)
            have HX5 := Lib.hid hb5
            clear hfo hfo' hc0 hfl hfl0 htl hb5 hfull hfi' i0 i1 f0 f1 HNOW HSR
            obtain ⟨e0, o5, k0, b5, k5, hbx, hnow, hsr⟩ := HP5.out.open'
            obtain ⟨⟨i0, i1⟩, ⟨f0, f1⟩⟩ := cells2 hbx
            have HNOW := Lib.hid hnow
            clear hbx hnow hsr HNOW5
            as_aux_lemma =>
              go_wp2_with fail
              refine (set_iv _ (rowOf s.now) fi 1 w5 HNOW.out (by rw [rowOf_length]; exact hfi) (by rw [rowOf_length]; omega) (Nat.le_of_lt_succ (Nat.lt_succ_of_le (by have h1 := HP5.out.vol.lt; omega)))).mono ?_
              rintro _ w6 ⟨⟨b6, k6, rfl, h6⟩, hb6⟩
              rw [rowOf_length] at h6 ⊢
              have h6' : IV (g + 1) w6 (.slice (some ⟨b6, 0, none⟩) 32 k6) (rowOf (s.now ||| 2 ^ fi)) := by rw [← rowOf_one s.now hfi]; exact h6
              have HV6 := Lib.hid h6'
              have HP6 := Lib.hid (HP5.out.later hb6)
              clear h6 h6' hb6 i0 i1 f0 f1
              obtain ⟨_, _, _, _, _, hbx, -, -⟩ := HP6.out.open'
              obtain ⟨⟨i0, i1⟩, ⟨f0, f1⟩⟩ := cells2 hbx
              clear hbx
              go_upto_region 18 with fail
              have hp7 := HP6.out.setNow HV6.out
              obtain ⟨w7, hw7⟩ : ∃ y, y = w6.setCell ⟨gx, 0, none⟩ (.slice (some ⟨b6, 0, none⟩) 32 k6) := ⟨_, rfl⟩
              rw [← hw7] at hp7 ⊢
              have HP7 := Lib.hid hp7
              clear hp7 hw7 i0 i1 f0 f1
              go_wp2_with fail
              refine (take_walk g s w7 HP7.out.vol (HT.out.below HP7.out.below) HFULL.out).mono ?_
              rw [← HFI.out]
              rintro _ w8 ⟨rfl, hv8, hg8⟩
              have HP8 := Lib.hid (HP7.out.done hv8 hg8)
              clear hv8 hg8
              go_wp2_with fail
              go_meet
              exact ⟨0, _, _, _, rfl, rfl, rfl, rfl, rfl, HP8.out⟩
        by_cases h1 : ln = 1
        · subst h1
          have z0 : (((1 : Nat) : Int) == 0) = false := rfl
          have z1 : (((1 : Nat) : Int) == 1) = true := rfl
          obtain ⟨i, hi⟩ : ∃ i, l[0]? = some i := ⟨_, List.getElem?_eq_getElem (by have := HLN.out; omega)⟩
          have HI := Lib.hid (fun (w' : World) (hb : Below W.heap.size W w') => HCELL.out w' hb 0 i hi)
          obtain ⟨rb, ro, hra, hci⟩ := HI.out _ HPS.out.below
          subst hra
          have HIC := Lib.hid (show ∀ w' : World, Below W.heap.size W w' → w'.cell? ⟨rb, ro, none⟩ = some (.int .i64 i) from fun w' hb => by
            obtain ⟨rb', ro', e, h⟩ := HI.out w' hb
            cases e
            exact h)
          rw [Nat.add_zero] at hci
          clear h0 hi HI
          have HCUR := HPS
          obtain ⟨b0, o0, c0, b, cap, hbx, hnow, hsr⟩ := HCUR.out.open'
          obtain ⟨⟨i0, i1⟩, ⟨f0, f1⟩⟩ := cells2 hbx
          have HNOW := Lib.hid hnow
          have HSR := Lib.hid hsr
          clear hbx hnow hsr
          by_cases hrng : 0 ≤ i ∧ i ≤ 31
          rotate_left
          · have HRNG := Lib.hid (decide_eq_false hrng)
            have HNR := Lib.hid hrng
            clear hrng
            as_aux_lemma =>
              go_wp2_with fail
              refine (lawin_anyS _ _ _ _).mono ?_
              rw [HRNG.out]
              rintro _ wq ⟨rfl, rfl⟩
              go_wp2_with fail
              refine (leave_bad _ i wr HNR.out).mono ?_
              rintro _ w6 ⟨rfl, rfl⟩
              go_wp2_with fail
              go_meet
              exact ⟨1, 0, s, _, rfl, rfl, rfl, rfl, rfl, HPS.out⟩
          · have HRNG := Lib.hid (decide_eq_true hrng)
            obtain ⟨j, rfl⟩ : ∃ j : Nat, i = j := ⟨i.toNat, by omega⟩
            have hj : j < 32 := by omega
            obtain ⟨hcj, -⟩ := HNOW.out.bit hj
            have s0 : (0 : Int) ≤ (j : Int) := by omega
            have s1 : (j : Int) < 32 := by omega
            clear hrng
            cases hbit : s.now.testBit j
            · rw [hbit] at hcj
              simp only [Bool.false_eq_true, if_false] at hcj
              have HBIT := Lib.hid hbit
              clear hbit
              as_aux_lemma =>
                go_wp2_with fail
                refine (lawin_anyS _ _ _ _).mono ?_
                rw [HRNG.out]
                rintro _ wq ⟨rfl, rfl⟩
                go_wp2_with fail
                go_quiet (fail)
                have HPQ := Lib.hid (HPS.out.later (below_drewN' wr nq))
                have hci2 := HIC.out _ HPQ.out.below
                clear hci hcj i0 i1 f0 f1
                go_wp2_with fail
                refine (leave_none g s j _ HPQ.out.vol hj HBIT.out).mono ?_
                rintro _ w6 ⟨rfl, rfl⟩
                go_wp2_with fail
                go_meet
                exact ⟨5, 0, s, _, rfl, rfl, rfl, rfl, rfl, HPQ.out⟩
            · rw [hbit] at hcj
              simp only [if_true] at hcj
              have HBIT := Lib.hid hbit
              clear hbit
              as_aux_lemma =>
                go_wp2_with fail
                refine (lawin_anyS _ _ _ _).mono ?_
                rw [HRNG.out]
                rintro _ wq ⟨rfl, rfl⟩
                go_wp2_with fail
                go_quiet (fail)
                have HPQ := Lib.hid (HPS.out.later (below_drewN' wr nq))
                obtain ⟨wq, hwq⟩ : ∃ y, y = wr.drewN nq := ⟨_, rfl⟩
                rw [← hwq] at HPQ ⊢
                have hci2 := HIC.out _ HPQ.out.below
                clear hci hcj i0 i1 f0 f1 hwq HNOW HSR
                obtain ⟨b0, o0, c0, b, cap, hbx, hnow, hsr⟩ := HPQ.out.open'
                obtain ⟨⟨i0, i1⟩, ⟨f0, f1⟩⟩ := cells2 hbx
                have HNOW := Lib.hid hnow
                clear hbx hnow hsr
                go_wp2_with fail
                go_still_tail 5, (by kernel_rfl)
                change wpList _ _ _ _ _ wq.drew
                go_wp2_with fail
                refine (set_iv _ (rowOf s.now) j 0 wq.drew (HNOW.out.below (Below.refl wq.heap.size wq).drew) (by rw [rowOf_length]; exact hj) (by rw [rowOf_length]; omega) (by have h1 := HPQ.out.vol.lt; simp only [World.size_drew]; omega)).mono ?_
                rintro _ w6 ⟨⟨b6, k6, rfl, h6⟩, hb6⟩
                rw [rowOf_length] at h6 ⊢
                have h6' : IV (g + 1) w6 (.slice (some ⟨b6, 0, none⟩) 32 k6) (rowOf (s.now &&& (4294967295 - 2 ^ j))) := by rw [← rowOf_nought s.now hj]; exact h6
                have HV6 := Lib.hid h6'
                have HP6 := Lib.hid (HPQ.out.later ((Below.refl wq.heap.size wq).drew.trans hb6))
                clear h6 h6' hb6 i0 i1 f0 f1 hci2
                obtain ⟨_, _, _, _, _, hbx, -, -⟩ := HP6.out.open'
                obtain ⟨⟨i0, i1⟩, ⟨f0, f1⟩⟩ := cells2 hbx
                clear hbx
                go_upto_region 25 with fail
                have hp7 := HP6.out.setNow HV6.out
                obtain ⟨w7, hw7⟩ : ∃ y, y = w6.setCell ⟨gx, 0, none⟩ (.slice (some ⟨b6, 0, none⟩) 32 k6) := ⟨_, rfl⟩
                rw [← hw7] at hp7 ⊢
                have HP7 := Lib.hid hp7
                clear hp7 hw7 i0 i1 f0 f1
                have hci7 := HIC.out _ HP7.out.below
                go_wp2_with fail
                refine (leave_walk g s j w7 HP7.out.vol hj HBIT.out).mono ?_
                rintro _ w8 ⟨rfl, hv8, hg8⟩
                have HP8 := Lib.hid (HP7.out.done hv8 hg8)
                clear hv8 hg8
                go_wp2_with fail
                go_meet
                exact ⟨0, 0, _, _, rfl, rfl, rfl, rfl, rfl, HP8.out⟩
        by_cases h2 : ln = 2
        · subst h2
          have z0 : (((2 : Nat) : Int) == 0) = false := rfl
          have z1 : (((2 : Nat) : Int) == 1) = false := rfl
          have z2 : (((2 : Nat) : Int) == 2) = true := rfl
          obtain ⟨a, ha⟩ : ∃ i, l[0]? = some i := ⟨_, List.getElem?_eq_getElem (by have := HLN.out; omega)⟩
          obtain ⟨k, hk⟩ : ∃ i, l[1]? = some i := ⟨_, List.getElem?_eq_getElem (by have := HLN.out; omega)⟩
          obtain ⟨rb, ro, hra, ca0⟩ := HCELL.out _ HPS.out.below 0 a ha
          subst hra
          rw [Nat.add_zero] at ca0
          have HIC := Lib.hid (show ∀ w' : World, Below W.heap.size W w' → (w'.cell? ⟨rb, ro, none⟩ = some (.int .i64 a) ∧ w'.cell? ⟨rb, ro + 1, none⟩ = some (.int .i64 k)) from fun w' hb => by
            obtain ⟨rb', ro', e, h⟩ := HCELL.out w' hb 0 a ha
            obtain ⟨rb2, ro2, e2, h2⟩ := HCELL.out w' hb 1 k hk
            cases e
            cases e2
            rw [Nat.add_zero] at h
            exact ⟨h, h2⟩)
          have ck0 := (HIC.out _ HPS.out.below).2
          clear h1 h0 ha hk
          obtain ⟨bb, hbb⟩ : ∃ bb : Bool, bb = decide (0 ≤ k ∧ k ≤ 3 ∧ s.b k.toNat = true) := ⟨_, rfl⟩
          have HBB := Lib.hid hbb
          clear hbb
          have HCUR := HPS
          obtain ⟨b0, o0, c0, b, cap, hbx, hnow, hsr⟩ := HCUR.out.open'
          obtain ⟨⟨i0, i1⟩, ⟨f0, f1⟩⟩ := cells2 hbx
          have HNOW := Lib.hid hnow
          have HSR := Lib.hid hsr
          clear hbx hnow hsr
          go_upto_region 27 with fail
          go_cut [12] (fun c wx => c = .bool bb ∧ PS W wx g gx s s)
          case first =>
            by_cases hrng : 0 ≤ k ∧ k ≤ 3
            · have HRNG := Lib.hid (decide_eq_true hrng)
              obtain ⟨j, rfl⟩ : ∃ j : Nat, k = j := ⟨k.toNat, by omega⟩
              have hj : j < 4 := by omega
              have hbj : bb = s.b j := by
                rw [HBB.out, Int.toNat_natCast]
                cases hb : s.b j
                · exact decide_eq_false (fun h => by cases h.2.2)
                · exact decide_eq_true ⟨hrng.1, hrng.2, rfl⟩
              have HBJ := Lib.hid hbj
              have t0 : (0 : Int) ≤ (j : Int) := by omega
              have t1 : (j : Int) < 4 := by omega
              clear hrng hbj
              rcases (HSR.out.at hj).2 with ⟨hb, hsc⟩ | ⟨hb, rb3, ro3, rc3, hsc, -⟩
              all_goals
                have HB := Lib.hid hb
                clear hb
                have HQ : Hid (∀ w : World, Calls Tryd.prog 8 #[.int .i64 (j : Nat), .int .i64 0, .int .i64 3] w fun e w' => e = .returned (.bool true) ∧ w' = w) := Lib.hid (fun w => (lawin_anyS _ _ _ w).mono fun e w' hh => ⟨by rw [hh.1, HRNG.out], hh.2.symm⟩)
                as_aux_lemma =>
                  go_quiet (first | (go_at_call 8; refine Calls.quiet_of_same (HQ.out _)))
                  go_wp2_with fail
                  go_meet
                  exact ⟨by rw [HBJ.out, HB.out], HPS.out.later (below_drewN' wr nq)⟩
            · have HRNG := Lib.hid (decide_eq_false hrng)
              have hbj : bb = false := by rw [HBB.out]; exact decide_eq_false (fun h => hrng ⟨h.1, h.2.1⟩)
              have HBJ := Lib.hid hbj
              clear hrng hbj
              have HQ : Hid (∀ w : World, Calls Tryd.prog 8 #[.int .i64 k, .int .i64 0, .int .i64 3] w fun e w' => e = .returned (.bool false) ∧ w' = w) := Lib.hid (fun w => (lawin_anyS _ _ _ w).mono fun e w' hh => ⟨by rw [hh.1, HRNG.out], hh.2.symm⟩)
              as_aux_lemma =>
                go_quiet (first | (go_at_call 8; refine Calls.quiet_of_same (HQ.out _)))
                go_wp2_with fail
                go_meet
                exact ⟨by rw [HBJ.out], HPS.out.later (below_drewN' wr nq)⟩
          case rest =>
            obtain ⟨rfl, hpq⟩ := hcut
            obtain ⟨wq, rfl⟩ : ∃ wq, wq = wc := ⟨_, rfl⟩
            have HPQ := Lib.hid hpq
            clear hpq ca0 ck0 i0 i1 f0 f1 HNOW HSR HCUR
            obtain ⟨ca1, ck1⟩ := HIC.out _ HPQ.out.below
            obtain ⟨b0, o0, c0, b, cap, hbx, hnow, hsr⟩ := HPQ.out.open'
            obtain ⟨⟨i0, i1⟩, ⟨f0, f1⟩⟩ := cells2 hbx
            have HNOW := Lib.hid hnow
            have HSR := Lib.hid hsr
            clear hbx hnow hsr
            by_cases hrng : 0 ≤ k ∧ k ≤ 3
            rotate_left
            · have HRNG := Lib.hid (decide_eq_false hrng)
              have HNR := Lib.hid hrng
              obtain rfl : bb = false := by rw [HBB.out]; exact decide_eq_false (fun h => hrng ⟨h.1, h.2.1⟩)
              clear hrng
              by_cases ha0 : a = 0
              · subst ha0
                as_aux_lemma =>
                  go_wp2_with fail
                  refine (lawin_anyS _ _ _ _).mono ?_
                  rw [HRNG.out]
                  rintro _ wq ⟨rfl, rfl⟩
                  go_wp2_with fail
                  refine (snap_bad _ k wq HNR.out).mono ?_
                  rintro _ w6 ⟨rfl, rfl⟩
                  go_wp2_with fail
                  go_meet
                  exact ⟨1, 0, s, _, rfl, rfl, rfl, rfl, rfl, HPQ.out⟩
              by_cases ha1 : a = 1
              · subst ha1
                as_aux_lemma =>
                  go_wp2_with fail
                  refine (lawin_anyS _ _ _ _).mono ?_
                  rw [HRNG.out]
                  rintro _ wq ⟨rfl, rfl⟩
                  go_wp2_with fail
                  refine (drop_bad _ k wq HNR.out).mono ?_
                  rintro _ w6 ⟨rfl, rfl⟩
                  go_wp2_with fail
                  go_meet
                  exact ⟨1, 0, s, _, rfl, rfl, rfl, rfl, rfl, HPQ.out⟩
              have y0 : (a == (0 : Int)) = false := beq_eq_false_iff_ne.2 ha0
              have y1 : (a == (1 : Int)) = false := beq_eq_false_iff_ne.2 ha1
              have y2 : (a != (0 : Int)) = true := bne_iff_ne.2 ha0
              clear ha0 ha1
              as_aux_lemma =>
                go_wp2_with fail
                refine (lawin_anyS _ _ _ _).mono ?_
                rw [HRNG.out]
                rintro _ wq ⟨rfl, rfl⟩
                go_wp2_with fail
                refine (turn_bad _ k wq HNR.out).mono ?_
                rintro _ w6 ⟨rfl, rfl⟩
                go_wp2_with fail
                go_meet
                exact ⟨1, 0, s, _, rfl, rfl, rfl, rfl, rfl, HPQ.out⟩
            · have HRNG := Lib.hid (decide_eq_true hrng)
              obtain ⟨j, rfl⟩ : ∃ j : Nat, k = j := ⟨k.toNat, by omega⟩
              have hj : j < 4 := by omega
              clear hrng
              cases hb : s.b j
              · have HB := Lib.hid hb
                obtain rfl : bb = false := by rw [HBB.out, Int.toNat_natCast, hb]; exact decide_eq_false (fun h => by cases h.2.2)
                clear hb
                by_cases ha0 : a = 0
                · subst ha0
                  as_aux_lemma =>
                    go_wp2_with fail
                    refine (lawin_anyS _ _ _ _).mono ?_
                    rw [HRNG.out]
                    rintro _ wq ⟨rfl, rfl⟩
                    go_wp2_with fail
                    go_still_tail 6, (by kernel_rfl)
                    change wpList _ _ _ _ _ wq.drew
                    go_wp2_with fail
                    refine (rwith_walk (z := g + 1) wq.drew _ _ _ (rowOf s.now) s j s.now true (HNOW.out.below (Below.refl wq.heap.size wq).drew) (HSR.out.below (Below.refl wq.heap.size wq).drew) hj (HNOW.out.below (Below.refl wq.heap.size wq).drew) (fun h => by cases h) (by have h1 := HPQ.out.vol.lt; simp only [World.size_drew]; omega)).mono ?_
                    rintro _ w6 ⟨⟨u2, rfl, hs6, hn6⟩, hb6⟩
                    obtain ⟨b6, k6, rfl⟩ := hs6.sl
                    have HS6 := Lib.hid hs6
                    have HN6 := Lib.hid hn6
                    have HP6 := Lib.hid (HPQ.out.later ((Below.refl wq.heap.size wq).drew.trans hb6))
                    clear hs6 hn6 hb6 i0 i1 f0 f1
                    obtain ⟨_, _, _, _, _, hbx, -, -⟩ := HP6.out.open'
                    obtain ⟨⟨i0, i1⟩, ⟨f0, f1⟩⟩ := cells2 hbx
                    clear hbx
                    go_upto_region 37 with fail
                    have hp7 := HP6.out.setAll (t' := s.setP j s.now true) (u1 := .slice (some ⟨b0, o0, none⟩) 32 c0) (u2 := .slice (some ⟨b6, 0, none⟩) 4 k6) HN6.out HS6.out rfl
                    obtain ⟨w7, hw7⟩ : ∃ y, y = (w6.setCell ⟨gx, 0, none⟩ (.slice (some ⟨b0, o0, none⟩) 32 c0)).setCell ⟨gx, 1, none⟩ (.slice (some ⟨b6, 0, none⟩) 4 k6) := ⟨_, rfl⟩
                    rw [← hw7] at hp7 ⊢
                    have HP7 := Lib.hid hp7
                    clear hp7 hw7 i0 i1 f0 f1
                    obtain ⟨ca7, ck7⟩ := HIC.out _ HP7.out.below
                    go_wp2_with fail
                    refine (snap_walk g s j w7 HP7.out.vol hj HB.out).mono ?_
                    rintro _ w8 ⟨rfl, hv8, hg8⟩
                    have HP8 := Lib.hid (HP7.out.done hv8 hg8)
                    clear hv8 hg8
                    go_wp2_with fail
                    go_meet
                    exact ⟨0, 0, _, _, rfl, rfl, rfl, rfl, rfl, HP8.out⟩
                by_cases ha1 : a = 1
                · subst ha1
                  as_aux_lemma =>
                    go_wp2_with fail
                    refine (lawin_anyS _ _ _ _).mono ?_
                    rw [HRNG.out]
                    rintro _ wq ⟨rfl, rfl⟩
                    go_wp2_with fail
                    refine (drop_none g s j wq HPQ.out.vol hj HB.out).mono ?_
                    rintro _ w6 ⟨rfl, rfl⟩
                    go_wp2_with fail
                    go_meet
                    exact ⟨5, 0, s, _, rfl, rfl, rfl, rfl, rfl, HPQ.out⟩
                have y0 : (a == (0 : Int)) = false := beq_eq_false_iff_ne.2 ha0
                have y1 : (a == (1 : Int)) = false := beq_eq_false_iff_ne.2 ha1
                have y2 : (a != (0 : Int)) = true := bne_iff_ne.2 ha0
                clear ha0 ha1
                as_aux_lemma =>
                  go_wp2_with fail
                  refine (lawin_anyS _ _ _ _).mono ?_
                  rw [HRNG.out]
                  rintro _ wq ⟨rfl, rfl⟩
                  go_wp2_with fail
                  refine (turn_none g s j wq HPQ.out.vol hj HB.out).mono ?_
                  rintro _ w6 ⟨rfl, rfl⟩
                  go_wp2_with fail
                  go_meet
                  exact ⟨5, 0, s, _, rfl, rfl, rfl, rfl, rfl, HPQ.out⟩
              · have HB := Lib.hid hb
                obtain rfl : bb = true := by rw [HBB.out, Int.toNat_natCast, hb]; exact decide_eq_true ⟨by omega, by omega, rfl⟩
                clear hb
                by_cases ha0 : a = 0
                · subst ha0
                  as_aux_lemma =>
                    go_wp2_with fail
                    refine (lawin_anyS _ _ _ _).mono ?_
                    rw [HRNG.out]
                    rintro _ wq ⟨rfl, rfl⟩
                    go_wp2_with fail
                    refine (snap_clash g s j wq HPQ.out.vol hj HB.out).mono ?_
                    rintro _ w6 ⟨rfl, rfl⟩
                    go_wp2_with fail
                    go_meet
                    exact ⟨6, 0, s, _, rfl, rfl, rfl, rfl, rfl, HPQ.out⟩
                by_cases ha1 : a = 1
                · subst ha1
                  as_aux_lemma =>
                    go_wp2_with fail
                    refine (lawin_anyS _ _ _ _).mono ?_
                    rw [HRNG.out]
                    rintro _ wq ⟨rfl, rfl⟩
                    go_wp2_with fail
                    refine (rfree_walk (z := g + 1) wq _ _ s HPQ.out.vol.ok HNOW.out HSR.out).mono ?_
                    rintro _ w5 ⟨⟨fv, rfl, hfo⟩, hb5⟩
                    obtain ⟨fa, fc, rfl⟩ := own_shapeS hfo
                    rw [freeTo_free]
                    obtain ⟨fw, hfw⟩ : ∃ n, n = s.free := ⟨_, rfl⟩
                    have hfw32 : fw ≤ 32 := by rw [hfw]; exact free_le s
                    rw [← hfw]
                    have HFW := Lib.hid hfw
                    have HP5 := Lib.hid (HPQ.out.later hb5)
                    clear hfo hb5 hfw i0 i1 f0 f1 ca1 ck1 HNOW HSR
                    obtain ⟨ca5, ck5⟩ := HIC.out _ HP5.out.below
                    obtain ⟨b0, o0, c0, b, cap, hbx, hnow, hsr⟩ := HP5.out.open'
                    obtain ⟨⟨i0, i1⟩, ⟨f0, f1⟩⟩ := cells2 hbx
                    have HNOW := Lib.hid hnow
                    have HSR := Lib.hid hsr
                    clear hbx hnow hsr
                    go_wp2_with fail
                    go_still_tail 4, (by kernel_rfl)
                    change wpList _ _ _ _ _ w5.drew
                    go_wp2_with fail
                    refine (rwith_walk (z := g + 1) w5.drew _ _ _ (rowOf s.now) s j 0 false (HNOW.out.below (Below.refl w5.heap.size w5).drew) (HSR.out.below (Below.refl w5.heap.size w5).drew) hj (IV.nil _) (fun _ => rfl) (by have h1 := HP5.out.vol.lt; simp only [World.size_drew]; omega)).mono ?_
                    rintro _ w6 ⟨⟨u2, rfl, hs6, hn6⟩, hb6⟩
                    obtain ⟨b6, k6, rfl⟩ := hs6.sl
                    have HS6 := Lib.hid hs6
                    have HN6 := Lib.hid hn6
                    have HP6 := Lib.hid (HP5.out.later ((Below.refl w5.heap.size w5).drew.trans hb6))
                    clear hs6 hn6 hb6 i0 i1 f0 f1 ca5 ck5
                    obtain ⟨_, _, _, _, _, hbx, -, -⟩ := HP6.out.open'
                    obtain ⟨⟨i0, i1⟩, ⟨f0, f1⟩⟩ := cells2 hbx
                    clear hbx
                    go_upto_region 42 with fail
                    have hp7 := HP6.out.setAll (t' := s.setP j 0 false) (u1 := .slice (some ⟨b0, o0, none⟩) 32 c0) (u2 := .slice (some ⟨b6, 0, none⟩) 4 k6) HN6.out HS6.out rfl
                    obtain ⟨w7, hw7⟩ : ∃ y, y = (w6.setCell ⟨gx, 0, none⟩ (.slice (some ⟨b0, o0, none⟩) 32 c0)).setCell ⟨gx, 1, none⟩ (.slice (some ⟨b6, 0, none⟩) 4 k6) := ⟨_, rfl⟩
                    rw [← hw7] at hp7 ⊢
                    have HP7 := Lib.hid hp7
                    clear hp7 hw7 i0 i1 f0 f1 HNOW HSR
                    obtain ⟨ca7, ck7⟩ := HIC.out _ HP7.out.below
                    obtain ⟨b0, o0, c0, b, cap, hbx, hnow, hsr⟩ := HP7.out.open'
                    obtain ⟨⟨i0, i1⟩, ⟨f0, f1⟩⟩ := cells2 hbx
                    have HNOW := Lib.hid hnow
                    have HSR := Lib.hid hsr
                    clear hbx hnow hsr
                    have hok' := setP_ok HPQ.out.vol.ok j
                    go_wp2_with fail
                    refine (rfree_walk (z := g + 1) w7 _ _ (s.setP j 0 false) hok' HNOW.out HSR.out).mono ?_
                    rintro _ w8 ⟨⟨fv, rfl, hfo⟩, hb8⟩
                    obtain ⟨ga, gc, rfl⟩ := own_shapeS hfo
                    rw [freeTo_free]
                    obtain ⟨fz, hfz⟩ : ∃ n, n = (s.setP j 0 false).free := ⟨_, rfl⟩
                    have hfz32 : fz ≤ 32 := by rw [hfz]; exact free_le _
                    rw [← hfz]
                    have HFZ := Lib.hid hfz
                    have HP8 := Lib.hid (HP7.out.later hb8)
                    clear hfo hb8 hfz i0 i1 f0 f1 ca7 ck7 HNOW HSR
                    obtain ⟨ca8, ck8⟩ := HIC.out _ HP8.out.below
                    have s5 : IntKind.i64.wrap ((fz : Int) - (fw : Int)) = (fz : Int) - (fw : Int) := IntWalk.i64_in _ (by omega)
                    go_wp2_with fail
                    refine (drop_walk g s j w8 HP8.out.vol hj HB.out).mono ?_
                    rw [← HFZ.out, ← HFW.out]
                    rintro _ w9 ⟨rfl, hv9, hg9⟩
                    have HP9 := Lib.hid (HP8.out.done hv9 hg9)
                    clear hv9 hg9
                    go_wp2_with fail
                    go_meet
                    exact ⟨0, _, _, _, rfl, rfl, rfl, rfl, rfl, HP9.out⟩
                have y0 : (a == (0 : Int)) = false := beq_eq_false_iff_ne.2 ha0
                have y1 : (a == (1 : Int)) = false := beq_eq_false_iff_ne.2 ha1
                have y2 : (a != (0 : Int)) = true := bne_iff_ne.2 ha0
                clear ha0 ha1
                as_aux_lemma =>
                  go_wp2_with fail
                  refine (lawin_anyS _ _ _ _).mono ?_
                  rw [HRNG.out]
                  rintro _ wq ⟨rfl, rfl⟩
                  have hsk := (HSR.out.at hj).2
                  rw [HB.out] at hsk
                  obtain ⟨hff, -⟩ | ⟨-, rb3, ro3, rc3, hsc, hsi⟩ := hsk
                  · cases hff
                  have HSI := Lib.hid hsi
                  have t0 : (0 : Int) ≤ (j : Int) := by omega
                  have t1 : (j : Int) < 4 := by omega
                  clear hsi
                  go_wp2_with fail
                  go_still_tail 7, (by kernel_rfl)
                  change wpList _ _ _ _ _ wq.drew
                  go_upto_region 46 with fail
                  have hp7 := (HPQ.out.later (Below.refl wq.heap.size wq).drew).setNow (HSI.out.below (Below.refl wq.heap.size wq).drew)
                  obtain ⟨w7, hw7⟩ : ∃ y, y = wq.drew.setCell ⟨gx, 0, none⟩ (.slice (some ⟨rb3, ro3, none⟩) 32 rc3) := ⟨_, rfl⟩
                  rw [← hw7] at hp7
                  have HP7 := Lib.hid hp7
                  change Code.wp _ _ _ _ (wq.drew.setCell ⟨gx, 0, none⟩ (.slice (some ⟨rb3, ro3, none⟩) 32 rc3))
                  rw [← hw7]
                  clear hp7 hw7 i0 i1 f0 f1 hsc
                  obtain ⟨ca7, ck7⟩ := HIC.out _ HP7.out.below
                  go_wp2_with fail
                  refine (turn_walk g s j w7 HP7.out.vol hj HB.out).mono ?_
                  rintro _ w8 ⟨rfl, hv8, hg8⟩
                  have HP8 := Lib.hid (HP7.out.done hv8 hg8)
                  clear hv8 hg8
                  go_wp2_with fail
                  go_meet
                  exact ⟨0, 0, _, _, rfl, rfl, rfl, rfl, rfl, HP8.out⟩
        have z0 : ((ln : Int) == 0) = false := beq_eq_false_iff_ne.2 (by omega)
        have z1 : ((ln : Int) == 1) = false := beq_eq_false_iff_ne.2 (by omega)
        have z2 : ((ln : Int) == 2) = false := beq_eq_false_iff_ne.2 (by omega)
        clear h0 h1 h2
        go_wp2_with fail
        go_meet
        exact ⟨0, 0, s, _, rfl, rfl, rfl, rfl, rfl, HPS.out⟩
      case rest =>
        obtain ⟨ec, m, s', ev, rfl, rfl, rfl, rfl, hev, hps⟩ := hcut
        obtain ⟨w4, rfl⟩ : ∃ w4, w4 = wc := ⟨_, rfl⟩
        have HEV := Lib.hid hev
        have HP4 := Lib.hid hps
        clear hev hps HPS
        go_upto_region 47 with fail
        go_cut [202] (fun c wx => c = .bool false ∧ PS W wx g gx s' s')
        case first =>
          obtain ⟨b0, o0, c0, b, cap, hbx, hnow, hsr⟩ := HP4.out.open'
          obtain ⟨⟨i0, i1⟩, -⟩ := cells2 hbx
          have hgx4 := lt_of_heap hbx
          have HS : Hid (∀ w', Below w4.heap.size w4 w' → (w'.cell? ⟨gx, 0, none⟩ = some (.slice (some ⟨b0, o0, none⟩) 32 c0) ∧ w'.cell? ⟨gx, 1, none⟩ = some (.slice (some ⟨b, 0, none⟩) 4 cap))) := Lib.hid (fun w' hb => ⟨(hb.cell (p := ⟨gx, 0, none⟩) hgx4).trans i0, (hb.cell (p := ⟨gx, 1, none⟩) hgx4).trans i1⟩)
          have HNOW := Lib.hid hnow
          have HSR := Lib.hid hsr
          obtain ⟨fw, hfw⟩ : ∃ n, n = s'.free := ⟨_, rfl⟩
          have HFW := Lib.hid hfw
          have p1 : (m != m) = false := by simp
          have p2 : ((fw : Int) != (fw : Int)) = false := by simp
          clear hbx hnow hsr hgx4 i0 i1 hfw
          as_aux_lemma =>
            go_region_held3 (fun w' => w'.cell? ⟨gx, 0, none⟩ = some (.slice (some ⟨b0, o0, none⟩) 32 c0) ∧ w'.cell? ⟨gx, 1, none⟩ = some (.slice (some ⟨b, 0, none⟩) 4 cap))
              (first
                | exact HS.out _ HB10.out
                | exact HS.out _ HB9.out
                | exact HS.out _ HB8.out
                | exact HS.out _ HB7.out
                | exact HS.out _ HB6.out
                | exact HS.out _ HB5.out
                | exact HS.out _ (Below.refl w4.heap.size w4).drew)
              (first
                | (have hseen := HB9; go_at_call 28; refine (ints_same _ _ (bitsOf s'.now) (onesTo (rowOf s'.now) (rowOf s'.now).length) w9 HVN9.out HVL9.out (onesTo_now s').symm).mono ?_; rintro _ w10 ⟨rfl, hb10⟩; have HB10 := Lib.hid (HB9.out.trans (hb10.mono HB9.out.size)); clear hb10)
                | (have hseen := HB8; go_at_call 30; refine (rlist_walk (z := g + 1) w8 _ (rowOf s'.now) (HNOW.out.below HB8.out) (by rw [rowOf_length]; omega)).mono ?_; rintro _ w9 ⟨⟨lv, rfl, hlo⟩, hb9⟩; have HVL9 := Lib.hid (HasInts.of_own hlo).2; have HVN9 := Lib.hid (HVN8.out.below hb9); have HB9 := Lib.hid (HB8.out.trans (hb9.mono HB8.out.size)); clear hlo hb9)
                | (have hseen := HB7; go_at_call 29; refine (now_walk g s' w7 (HP4.out.vol.below HB7.out)).mono ?_; rintro _ w8 ⟨⟨nv, rfl, hnv, -⟩, hb8⟩; have HVN8 := Lib.hid hnv; have HB8 := Lib.hid (HB7.out.trans (hb8.mono HB7.out.size)); clear hnv hb8)
                | (have hseen := HB6; go_at_call 19; refine (rfree_walk (z := g + 1) w6 _ _ s' HP4.out.vol.ok (HNOW.out.below HB6.out) (HSR.out.below HB6.out)).mono ?_; rw [freeTo_free, ← HFW.out]; rintro _ w7 ⟨⟨fv, rfl, hfo⟩, hb7⟩; obtain ⟨fa, fc, rfl⟩ := own_shapeS hfo; have HB7 := Lib.hid (HB6.out.trans (hb7.mono HB6.out.size)); clear hfo hb7)
                | (have hseen := HB5; go_at_call 27; refine (free_below g s' w5 (HP4.out.vol.below HB5.out)).mono ?_; rw [← HFW.out]; rintro _ w6 ⟨rfl, hb6⟩; have HB6 := Lib.hid (HB5.out.trans (hb6.mono HB5.out.size)); clear hb6)
                | (go_at_call 10; refine (err_same (ec : Nat) _ HEV.out w4.drew (HH.out.below HP4.out.below.drew)).mono ?_; rintro _ w5 ⟨rfl, hb5⟩; have HB5 := Lib.hid ((Below.refl w4.heap.size w4).drew.trans hb5); clear hb5))
            all_goals
              go_wp2_with fail
              go_meet
              exact ⟨rfl, HP4.out.later HB10.out⟩
        case rest =>
          obtain ⟨rfl, hps⟩ := hcut
          obtain ⟨w5, rfl⟩ : ∃ w5, w5 = wc := ⟨_, rfl⟩
          have HP5 := Lib.hid hps
          clear hps HP4 HEV
          go_wp2_with fail
          go_loopw [14] (fun ix wr => ∃ k : Nat, k ≤ 4 ∧ ix = .int .i64 (k : Nat) ∧ PS W wr g gx s' s') (fun ix _ => 4 - (intOf ix).toNat)
          case atStart => exact ⟨0, Nat.zero_le _, rfl, HP5.out⟩
          case round =>
            obtain ⟨k, hk, rfl, hpk⟩ := hrel
            have HPK := Lib.hid hpk
            clear hpk
            by_cases hk4 : k < 4
            · have q4 : decide ((k : Int) < 4) = true := decide_eq_true (by omega)
              have t0 : (0 : Int) ≤ (k : Int) := by omega
              have t1 : (k : Int) < 4 := by omega
              go_upto_region 52 with fail
              go_cut [217] (fun c wx => c = .bool false ∧ PS W wx g gx s' s')
              case first =>
                obtain ⟨b0, o0, c0, b, cap, hbx, hnow, hsr⟩ := HPK.out.open'
                obtain ⟨⟨i0, i1⟩, -⟩ := cells2 hbx
                have hgx4 := lt_of_heap hbx
                obtain ⟨rv, hrc, hri⟩ : ∃ rv, wr.cell? ⟨b, k, none⟩ = some rv ∧ IV (g + 1) wr rv (snapL s' k) := by
                  obtain ⟨b', cap', cs, fr, e1, e2, e3, e4, e5, e6⟩ := hsr
                  cases e1
                  obtain ⟨rv, k1, k2, -⟩ := e6 k hk4
                  exact ⟨rv, k1, k2⟩
                obtain ⟨ra3, rn3, rc3, rfl, -⟩ := hri.sl
                have hbw : b < wr.heap.size := (hsr.at hk4).1
                have HS : Hid (∀ w', Below wr.heap.size wr w' → (w'.cell? ⟨gx, 1, none⟩ = some (.slice (some ⟨b, 0, none⟩) 4 cap) ∧ w'.cell? ⟨b, k, none⟩ = some (.slice ra3 rn3 rc3))) := Lib.hid (fun w' hb => ⟨(hb.cell (p := ⟨gx, 1, none⟩) hgx4).trans i1, (hb.cell (p := ⟨b, k, none⟩) hbw).trans hrc⟩)
                have HRI := Lib.hid hri
                have hsl : (snapL s' k).length ≤ 1000 := by
                  unfold snapL
                  split
                  · rw [rowOf_length]; omega
                  · exact Nat.zero_le _
                have HSL := Lib.hid hsl
                clear hbx hnow hsr hgx4 i0 i1 hrc hri hbw hsl
                as_aux_lemma =>
                  go_region_held3 (fun w' => w'.cell? ⟨gx, 1, none⟩ = some (.slice (some ⟨b, 0, none⟩) 4 cap) ∧ w'.cell? ⟨b, k, none⟩ = some (.slice ra3 rn3 rc3))
                    (first
                      | exact HS.out _ HB8.out
                      | exact HS.out _ HB7.out
                      | exact HS.out _ HB6.out
                      | exact HS.out _ (Below.refl wr.heap.size wr).drew)
                    (first
                      | (have hseen := HB7; go_at_call 28; refine (ints_same _ _ (bitsOf (s'.p k)) (onesTo (snapL s' k) (snapL s' k).length) w7 HVO7.out HVL7.out (onesTo_snap HPK.out.vol.ok k).symm).mono ?_; rintro _ w8 ⟨rfl, hb8⟩; have HB8 := Lib.hid (HB7.out.trans (hb8.mono HB7.out.size)); clear hb8)
                      | (have hseen := HB6; go_at_call 30; refine (rlist_walk (z := g + 1) w6 _ (snapL s' k) (HRI.out.below HB6.out) HSL.out).mono ?_; rintro _ w7 ⟨⟨lv, rfl, hlo⟩, hb7⟩; have HVL7 := Lib.hid (HasInts.of_own hlo).2; have HVO7 := Lib.hid (HVO6.out.below hb7); have HB7 := Lib.hid (HB6.out.trans (hb7.mono HB6.out.size)); clear hlo hb7)
                      | (go_at_call 31; refine (of_walk g s' k wr.drew (HPK.out.vol.below (Below.refl wr.heap.size wr).drew) hk4).mono ?_; rintro _ w6 ⟨⟨nv, rfl, hnv, -⟩, hb6⟩; have HVO6 := Lib.hid hnv; have HB6 := Lib.hid ((Below.refl wr.heap.size wr).drew.trans hb6); clear hnv hb6))
                  all_goals
                    go_wp2_with fail
                    go_meet
                    exact ⟨rfl, HPK.out.later HB8.out⟩
              case rest =>
                obtain ⟨rfl, hps⟩ := hcut
                obtain ⟨w6, rfl⟩ : ∃ w6, w6 = wc := ⟨_, rfl⟩
                have HP6 := Lib.hid hps
                clear hps
                go_wp2_with fail
                go_roundw
                case rel => exact ⟨k + 1, by omega, by go_num, HP6.out⟩
                case measure => simp [intOf]; omega
            · obtain rfl : k = 4 := by omega
              have q4 : decide (((4 : Nat) : Int) < 4) = false := rfl
              go_wp2_with fail
              go_roundw
              case rel => exact ⟨j + 1, s', by omega, by go_num, HPK.out⟩
              case measure => simp [intOf]; omega
    · have hcase : decide (j < n) = false ∨ (decide (j < n) = true ∧ decide ((j : Int) < 60) = false) := by
        by_cases h : j < n
        · exact .inr ⟨decide_eq_true h, decide_eq_false (by omega)⟩
        · exact .inl (decide_eq_false h)
      clear hgo
      rcases hcase with q1 | ⟨q1, q2⟩
      all_goals
        go_wp2_with fail
        refine (of_bad _ (-1) wr (by omega)).mono ?_
        rintro _ w6 ⟨rfl, rfl⟩
        go_wp2_with fail
        refine (of_bad _ 4 wr (by omega)).mono ?_
        rintro _ w6 ⟨rfl, rfl⟩
        go_wp2_with fail
        go_ret
        exact ⟨rfl, HPS.out.below⟩

end Go.Proofs.YtegibgflhhdddaaDoor
