/- The walk of FtlReads. -/
import Derived.Test.YtglcljeeigilnaaFtlLv
namespace Go.Proofs.Ytglcljeeigilnaa
open Go.RowKit Ftl

set_option maxRecDepth 100000 in
set_option maxHeartbeats 4000000 in
theorem reads_walk (v0 : Value) (page value : Int) (W : World) {rs : List (List Int)} (hv0 : RowsArg W v0 rs) (_hp : -9223372036854775808 ≤ page ∧ page ≤ 9223372036854775807) (_hv : -9223372036854775808 ≤ value ∧ value ≤ 9223372036854775807) :
    Calls Try.prog 5 #[v0, .int .i64 page, .int .i64 value] W fun e w' => e = .returned (.bool true) ∧ Below W.heap.size W w' := by
  have HR := Lib.hid hv0.1
  obtain ⟨a, n, cap, rfl, hnn, hc1, hc2⟩ : ∃ a n cap, v0 = .slice a n cap ∧ n = rs.length ∧ n ≤ cap ∧ cap ≤ maxLen := by
    obtain ⟨a, cap, h, h1, h2, -⟩ := hv0.1
    exact ⟨a, rs.length, cap, h, rfl, h1, h2⟩
  have hnm : n ≤ 9223372036854775807 := by unfold maxLen at hc2; omega
  have HNN := Lib.hid hnn
  have hmk := mk8
  clear hv0 hnn hc1 hc2
  go_enter Try.func5, Try.ntmps5
  go_wp2_with fail
  refine (ffact_walk _).mono ?_
  rintro _ w1 ⟨rfl, hb⟩
  have HB1 := Lib.hid hb
  clear hb
  go_wp2_with fail
  refine (fnew_walk _).mono ?_
  rintro _ w2 ⟨rfl, hs, hb⟩
  obtain ⟨g, hg⟩ : ∃ g, g = w1.heap.size := ⟨_, rfl⟩
  rw [← hg] at hs ⊢
  have hWg : W.heap.size ≤ g := by rw [hg]; exact HB1.out.size
  have H0 := Lib.hid (RowRel.first vals_new hs (HB1.out.trans (hb.mono HB1.out.size)))
  clear hs hb hg
  go_wp2_with fail
  obtain ⟨L, hL⟩ : ∃ L, L = w2.heap.size := ⟨_, rfl⟩
  rw [← hL] at H0 ⊢
  clear hL
  go_loopw [10] (fun ix wr => ∃ (j asked : Nat) (s : Fl), j ≤ n ∧ j ≤ 100 ∧ asked ≤ j ∧ ix = .int .i64 j ∧ RowRel valsOf W wr g L s asked) (fun ix _ => 100 - (intOf ix).toNat)
  case atStart => exact ⟨0, 0, Fl.new, by omega, by omega, by omega, rfl, H0.out⟩
  case round =>
    obtain ⟨j, asked, s, hj, hj100, haj, rfl, hr⟩ := hrel
    have HE := Lib.hid hr
    clear hr
    by_cases hgo : j < n ∧ j < 100
    · obtain ⟨hlt, h100⟩ := hgo
      have q1 : decide (j < n) = true := decide_eq_true hlt
      have q2 : decide ((j : Int) < 100) = true := decide_eq_true (by omega)
      obtain ⟨r, hr⟩ : ∃ r, rs[j]? = some r := ⟨_, List.getElem?_eq_getElem (by have := HNN.out; omega)⟩
      obtain ⟨b, off, rv, rfl, hrc, hri⟩ := (HR.out.below HE.out.below).lies hr
      obtain ⟨ar, cr, rfl, hcr1, hcr2, hcr⟩ := hri
      have hj0 : (0 : Int) ≤ (j : Int) := by omega
      have hjn : (j : Int) < (n : Int) := by omega
      by_cases hl2 : r.length = 2
      · obtain ⟨x, y, rfl⟩ : ∃ x y, r = [x, y] := by
          rcases r with _ | ⟨x, _ | ⟨y, _ | ⟨z, r⟩⟩⟩ <;> simp at hl2
          exact ⟨x, y, rfl⟩
        simp only [List.length_cons, List.length_nil, Nat.zero_add] at hrc
        -- the row of the argument, in whatever later world
        obtain ⟨b', off', rv', e1, hrc0, hri0⟩ := HR.out.lies hr
        cases e1
        have hbW : b < W.heap.size := World.block_lt_of_cell? W _ hrc0
        have ervv : rv' = .slice ar 2 cr := by
          have h1 := HE.out.below.cell (p := ⟨b, off + j, none⟩) hbW
          rw [hrc0] at h1
          rw [h1] at hrc
          simpa using hrc
        subst ervv
        obtain ⟨ar', cr', e2, -, -, hcr0⟩ := hri0
        cases e2
        obtain ⟨br, orr, rfl, hbr, hcx0⟩ := hcr0 (by simp)
        have HX0 := Lib.hid (hcx0 0 x rfl)
        have HY0 := Lib.hid (hcx0 1 y rfl)
        obtain ⟨br', orr', e3, hbr', hcx⟩ := hcr (by simp)
        cases e3
        have hx := hcx 0 x rfl
        have hy := hcx 1 y rfl
        simp only [Nat.add_zero] at hx HX0
        clear hcr hcx hr hl2 hcr0 hcx0 hbr' hrc0
        go_wp2_with fail
        go_still_tail 11, (by kernel_rfl)
        change wpList _ _ _ _ _ wr.drew
        go_wp2_with fail
        have HED := Lib.hid (HE.out.later (Below.refl _ _).drew)
        by_cases hin : (0 ≤ x ∧ x ≤ 7) ∧ (0 ≤ y ∧ y ≤ 1000)
        · obtain ⟨p, rfl⟩ : ∃ p : Nat, x = p := ⟨x.toNat, by omega⟩
          have hp8 : p < 8 := by omega
          have D := Lib.hid (decide_eq_true hin.1)
          refine (fwrite_walk _ g (g + 1) g s p y HED.out.is HED.out.ok hp8 hin.2 (HED.out.times (by omega))).mono ?_
          rintro _ w5 ⟨rfl, hs5, hb5, hk5⟩
          have hmid := HED.out.mid hWg (p := (p, y)) hs5 hb5 hk5
          have HMID := Lib.hid hmid
          have hx5 := HX0.out
          rw [← hmid.below.cell (p := ⟨br, orr, none⟩) hbr] at hx5
          have hy5 := HY0.out
          rw [← hmid.below.cell (p := ⟨br, orr + 1, none⟩) hbr] at hy5
          obtain ⟨⟨vL, cL⟩, fL⟩ := hmid.cells vals_length hp8
          have HST := Lib.hid (hmid.stored hWg hp8 (vals_step HED.out.ok hp8))
          have hp0 : (0 : Int) ≤ (p : Int) := by omega
          have hpi : (p : Int) < 8 := by omega
          clear hs5 hb5 hk5 hmid hin hx hy
          go_wp2_with fail
          refine (law_inF _ _ _ _).mono ?_
          rw [D.out]
          rintro _ w6 ⟨rfl, rfl⟩
          go_wp2_with fail
          go_region_law (fail)
          all_goals
            go_wp2_with fail
            go_roundw
            case rel => exact ⟨j + 1, asked + 1, _, by omega, by omega, by omega, by go_num, HST.out.later (Below.refl _ _).drew⟩
            case measure => simp [intOf]; omega
        · refine (fwrite_no _ g x y hin).mono ?_
          rintro _ w5 ⟨rfl, rfl⟩
          clear hin
          go_wp2_with fail
          go_roundw
          case rel => exact ⟨j + 1, asked, s, by omega, by omega, by omega, by go_num, HED.out⟩
          case measure => simp [intOf]; omega
      · have q3 : ((r.length : Int) == 2) = false := beq_eq_false_iff_ne.2 (by omega)
        have hcm : r.length ≤ 9223372036854775807 := by unfold maxLen at hcr2; omega
        obtain ⟨m, hm⟩ : ∃ m, m = r.length := ⟨_, rfl⟩
        rw [← hm] at q3 hrc hcm
        clear hcr hr hl2 hm hcr1
        go_wp2_with fail
        go_quiet (fail)
        go_wp2_with fail
        go_roundw
        case rel => exact ⟨j + 1, asked, s, by omega, by omega, by omega, by go_num, HE.out.later (below_drewN' _ _)⟩
        case measure => simp [intOf]; omega
    · have hcase : decide (j < n) = false ∨ (decide (j < n) = true ∧ decide ((j : Int) < 100) = false) := by
        by_cases h : j < n
        · exact .inr ⟨decide_eq_true h, decide_eq_false (by omega)⟩
        · exact .inl (decide_eq_false h)
      clear hgo
      have hasked : asked ≤ 100 := by omega
      rcases hcase with q1 | ⟨q1, q2⟩
      all_goals
        go_wp2_with fail
        refine (law_inF _ _ _ _).mono ?_
        by_cases hpg : 0 ≤ page ∧ page ≤ 7
        · rw [decide_eq_true hpg]
          rintro _ w4 ⟨rfl, rfl⟩
          obtain ⟨p, rfl⟩ : ∃ p : Nat, page = p := ⟨page.toNat, by omega⟩
          have hp8 : p < 8 := by omega
          have hp0 : (0 : Int) ≤ (p : Int) := by omega
          have hpi : (p : Int) < 8 := by omega
          clear hpg _hp
          go_wp2_with fail
          refine (law_inF _ _ _ _).mono ?_
          by_cases hvl : 0 ≤ value ∧ value ≤ 1000
          · rw [decide_eq_true hvl]
            rintro _ w4 ⟨rfl, rfl⟩
            have HVL := Lib.hid hvl
            clear hvl _hv
            go_wp2_with fail
            refine (fwrite_walk _ g (g + 1) g s p value HE.out.is HE.out.ok hp8 HVL.out (HE.out.times (by omega))).mono ?_
            rintro _ w5 ⟨rfl, hs5, hb5, hk5⟩
            have hmid := HE.out.mid hWg (p := (p, value)) hs5 hb5 hk5
            obtain ⟨⟨vL, cL⟩, fL⟩ := hmid.cells vals_length hp8
            have HFIN := Lib.hid (hmid.stored hWg hp8 (vals_step HE.out.ok hp8))
            obtain ⟨s', hs'⟩ : ∃ s', s' = s.write (p, value) := ⟨_, rfl⟩
            rw [← hs'] at HFIN
            clear hs5 hb5 hk5 hmid hs'
            go_wp2_with fail
            go_loopw [12] (fun ix wr => ∃ k : Nat, k ≤ 8 ∧ ix = .int .i64 k ∧ RowRel valsOf W wr g L s' (asked + 1)) (fun ix _ => 8 - (intOf ix).toNat)
            case atStart => exact ⟨0, by omega, rfl, HFIN.out⟩
            case round =>
              obtain ⟨k, hk, rfl, hr⟩ := hrel
              have HK := Lib.hid hr
              by_cases hlt : k < 8
              · have q3 : decide ((k : Int) < 8) = true := decide_eq_true (by omega)
                have hk0 : (0 : Int) ≤ (k : Int) := by omega
                have hk8 : (k : Int) < 8 := by omega
                have hval : (valsOf s')[k]? = some (Fl.val s' k) := by unfold valsOf; rw [List.getElem?_map, List.getElem?_range hlt]; rfl
                have hcell := hr.row.cellAt k (by omega)
                rw [show (ints (valsOf s'))[k]? = some (.int .i64 (Fl.val s' k)) by unfold ints; rw [List.getElem?_map, hval]; rfl] at hcell
                have HC := Lib.hid hcell
                have hLw : L < wr.heap.size := by obtain ⟨-, cur, hh⟩ := hr.block; exact (Array.getElem?_eq_some_iff.1 hh).1
                clear hr hval hcell
                go_wp2_with fail
                refine (read_walk _ g (g + 1) g s' k HK.out.is HK.out.ok hlt).mono ?_
                rintro _ w9 ⟨rfl, hb9⟩
                have HK9 := Lib.hid (HK.out.later hb9)
                have hc9 := HC.out
                rw [← hb9.cell (p := ⟨L, k, none⟩) hLw] at hc9
                obtain ⟨vv, hvv⟩ : ∃ vv, vv = Fl.val s' k := ⟨_, rfl⟩
                rw [← hvv] at hc9 ⊢
                have q4 : (vv == vv) = true := by simp
                have q4' : (vv != vv) = false := by simp
                clear hb9 hvv
                go_wp2_with fail
                go_roundw
                case rel => exact ⟨k + 1, by omega, by go_num, HK9.out⟩
                case measure => simp [intOf]; omega
              · obtain rfl : k = 8 := by omega
                clear hr
                go_wp2_with fail
                go_ret
                exact ⟨rfl, HK.out.below⟩
          · rw [decide_eq_false hvl]
            rintro _ w4 ⟨rfl, rfl⟩
            have HFIN := Lib.hid (show RowRel valsOf W wr g L s (asked + 1) from ⟨HE.out.is, HE.out.ok, by have := HE.out.hi; omega, HE.out.row, HE.out.below⟩)
            clear hvl _hv
            go_wp2_with fail
            go_loopw [12] (fun ix wr => ∃ k : Nat, k ≤ 8 ∧ ix = .int .i64 k ∧ RowRel valsOf W wr g L s (asked + 1)) (fun ix _ => 8 - (intOf ix).toNat)
            case atStart => exact ⟨0, by omega, rfl, HFIN.out⟩
            case round =>
              obtain ⟨k, hk, rfl, hr⟩ := hrel
              have HK := Lib.hid hr
              by_cases hlt : k < 8
              · have q3 : decide ((k : Int) < 8) = true := decide_eq_true (by omega)
                have hk0 : (0 : Int) ≤ (k : Int) := by omega
                have hk8 : (k : Int) < 8 := by omega
                have hval : (valsOf s)[k]? = some (Fl.val s k) := by unfold valsOf; rw [List.getElem?_map, List.getElem?_range hlt]; rfl
                have hcell := hr.row.cellAt k (by omega)
                rw [show (ints (valsOf s))[k]? = some (.int .i64 (Fl.val s k)) by unfold ints; rw [List.getElem?_map, hval]; rfl] at hcell
                have HC := Lib.hid hcell
                have hLw : L < wr.heap.size := by obtain ⟨-, cur, hh⟩ := hr.block; exact (Array.getElem?_eq_some_iff.1 hh).1
                clear hr hval hcell
                go_wp2_with fail
                refine (read_walk _ g (g + 1) g s k HK.out.is HK.out.ok hlt).mono ?_
                rintro _ w9 ⟨rfl, hb9⟩
                have HK9 := Lib.hid (HK.out.later hb9)
                have hc9 := HC.out
                rw [← hb9.cell (p := ⟨L, k, none⟩) hLw] at hc9
                obtain ⟨vv, hvv⟩ : ∃ vv, vv = Fl.val s k := ⟨_, rfl⟩
                rw [← hvv] at hc9 ⊢
                have q4 : (vv == vv) = true := by simp
                have q4' : (vv != vv) = false := by simp
                clear hb9 hvv
                go_wp2_with fail
                go_roundw
                case rel => exact ⟨k + 1, by omega, by go_num, HK9.out⟩
                case measure => simp [intOf]; omega
              · obtain rfl : k = 8 := by omega
                clear hr
                go_wp2_with fail
                go_ret
                exact ⟨rfl, HK.out.below⟩
        · rw [decide_eq_false hpg]
          rintro _ w4 ⟨rfl, rfl⟩
          have HFIN := Lib.hid (show RowRel valsOf W wr g L s (asked + 1) from ⟨HE.out.is, HE.out.ok, by have := HE.out.hi; omega, HE.out.row, HE.out.below⟩)
          clear hpg _hp _hv
          go_wp2_with fail
          go_loopw [12] (fun ix wr => ∃ k : Nat, k ≤ 8 ∧ ix = .int .i64 k ∧ RowRel valsOf W wr g L s (asked + 1)) (fun ix _ => 8 - (intOf ix).toNat)
          case atStart => exact ⟨0, by omega, rfl, HFIN.out⟩
          case round =>
            obtain ⟨k, hk, rfl, hr⟩ := hrel
            have HK := Lib.hid hr
            by_cases hlt : k < 8
            · have q3 : decide ((k : Int) < 8) = true := decide_eq_true (by omega)
              have hk0 : (0 : Int) ≤ (k : Int) := by omega
              have hk8 : (k : Int) < 8 := by omega
              have hval : (valsOf s)[k]? = some (Fl.val s k) := by unfold valsOf; rw [List.getElem?_map, List.getElem?_range hlt]; rfl
              have hcell := hr.row.cellAt k (by omega)
              rw [show (ints (valsOf s))[k]? = some (.int .i64 (Fl.val s k)) by unfold ints; rw [List.getElem?_map, hval]; rfl] at hcell
              have HC := Lib.hid hcell
              have hLw : L < wr.heap.size := by obtain ⟨-, cur, hh⟩ := hr.block; exact (Array.getElem?_eq_some_iff.1 hh).1
              clear hr hval hcell
              go_wp2_with fail
              refine (read_walk _ g (g + 1) g s k HK.out.is HK.out.ok hlt).mono ?_
              rintro _ w9 ⟨rfl, hb9⟩
              have HK9 := Lib.hid (HK.out.later hb9)
              have hc9 := HC.out
              rw [← hb9.cell (p := ⟨L, k, none⟩) hLw] at hc9
              obtain ⟨vv, hvv⟩ : ∃ vv, vv = Fl.val s k := ⟨_, rfl⟩
              rw [← hvv] at hc9 ⊢
              have q4 : (vv == vv) = true := by simp
              have q4' : (vv != vv) = false := by simp
              clear hb9 hvv
              go_wp2_with fail
              go_roundw
              case rel => exact ⟨k + 1, by omega, by go_num, HK9.out⟩
              case measure => simp [intOf]; omega
            · obtain rfl : k = 8 := by omega
              clear hr
              go_wp2_with fail
              go_ret
              exact ⟨rfl, HK.out.below⟩

end Go.Proofs.Ytglcljeeigilnaa
