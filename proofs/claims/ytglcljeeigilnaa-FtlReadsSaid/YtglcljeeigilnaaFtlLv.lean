/- The walk of FtlLive. -/
import Derived.Test.YtglcljeeigilnaaFtlRow
import Derived.Test.YtglcljeeigilnaaSum
namespace Go.Proofs.Ytglcljeeigilnaa
open Go.RowKit Ftl

theorem law_inF (a b c : Int) (w : World) :
    Calls Try.prog 13 #[.int .i64 a, .int .i64 b, .int .i64 c] w fun e w' => e = .returned (.bool (decide (b ≤ a ∧ a ≤ c))) ∧ w = w' := by
  by_cases h1 : b ≤ a
  · have q1 : decide (b ≤ a) = true := decide_eq_true h1
    by_cases h2 : a ≤ c
    · have q2 : decide (a ≤ c) = true := decide_eq_true h2
      go_enter Try.func13, Try.ntmps13
      go_wp2
      go_ret
      exact ⟨by simp [h1, h2], rfl⟩
    · have q2 : decide (a ≤ c) = false := decide_eq_false h2
      go_enter Try.func13, Try.ntmps13
      go_wp2
      go_ret
      exact ⟨by simp, rfl⟩
  · have q1 : decide (b ≤ a) = false := decide_eq_false h1
    go_enter Try.func13, Try.ntmps13
    go_wp2
    go_ret
    exact ⟨by simp, rfl⟩

/-- the pages that live in the first blocks; the blocks that are empty, but for the active one -/
def liveN (s : Fl) (k : Nat) : Nat := ((List.range k).map fun b => (s.live b).length).sum
def spareN (s : Fl) (k : Nat) : Nat := ((List.range k).filter fun b => decide ((s.row b).length = 0 ∧ b ≠ s.act)).length
theorem liveN_step (s : Fl) (k : Nat) : liveN s (k + 1) = liveN s k + (s.live k).length := by
  unfold liveN; rw [List.range_succ, List.map_append, List.sum_append]; simp
theorem spareN_yes {s : Fl} {k : Nat} (h : (s.row k).length = 0 ∧ k ≠ s.act) : spareN s (k + 1) = spareN s k + 1 := by
  unfold spareN; rw [List.range_succ, List.filter_append, List.length_append]
  have : decide ((s.row k).length = 0 ∧ k ≠ s.act) = true := decide_eq_true h
  simp only [List.filter_cons, this, List.filter_nil, if_true]
  rfl
theorem spareN_no {s : Fl} {k : Nat} (h : ¬ ((s.row k).length = 0 ∧ k ≠ s.act)) : spareN s (k + 1) = spareN s k := by
  unfold spareN; rw [List.range_succ, List.filter_append, List.length_append]
  have : decide ((s.row k).length = 0 ∧ k ≠ s.act) = false := decide_eq_false h
  simp only [List.filter_cons, this, List.filter_nil]
  rfl
theorem liveN_6 {s : Fl} (h : Ok s) : liveN s 6 = s.all := by
  rw [← h.all_live]
  rw [liveN_step, liveN_step, liveN_step, liveN_step, liveN_step, liveN_step]
  simp [liveN]
theorem spareN_6 {s : Fl} (h : Ok s) : 0 < spareN s 6 := by
  obtain ⟨b, hb, hne, he⟩ := h.spare
  unfold spareN
  exact List.length_pos_of_mem (List.mem_filter.2 ⟨List.mem_range.2 hb, decide_eq_true ⟨by rw [he]; rfl, hne⟩⟩)
theorem spareN_le (s : Fl) (k : Nat) : spareN s k ≤ k := by
  unfold spareN; exact Nat.le_trans (List.length_filter_le _ _) (by simp)

theorem seen_bounds (s : Fl) : ∀ x ∈ seenOf s, 0 ≤ x ∧ x ≤ 100000 := by
  intro x hx
  obtain ⟨p, -, rfl⟩ := List.mem_map.1 hx
  split <;> omega

set_option maxRecDepth 100000 in
set_option maxHeartbeats 4000000 in
theorem lives_walk (v0 : Value) (W : World) {rs : List (List Int)} (hv0 : RowsArg W v0 rs) :
    Calls Try.prog 7 #[v0] W fun e w' => e = .returned (.bool true) ∧ Below W.heap.size W w' := by
  have HR := Lib.hid hv0.1
  obtain ⟨a, n, cap, rfl, hnn, hc1, hc2⟩ : ∃ a n cap, v0 = .slice a n cap ∧ n = rs.length ∧ n ≤ cap ∧ cap ≤ maxLen := by
    obtain ⟨a, cap, h, h1, h2, -⟩ := hv0.1
    exact ⟨a, rs.length, cap, h, rfl, h1, h2⟩
  have hnm : n ≤ 9223372036854775807 := by unfold maxLen at hc2; omega
  have HNN := Lib.hid hnn
  have hmk := mk8
  clear hv0 hnn hc1 hc2
  go_enter Try.func7, Try.ntmps7
  go_wp2_with fail
  refine (ffact_walk _).mono ?_
  rintro _ w1 ⟨rfl, hb⟩
  have HB1 := Lib.hid hb
  clear hb
  go_wp2_with fail
  refine (fnew_walk _).mono ?_
  rintro _ w2 ⟨rfl, hs, hb⟩
  obtain ⟨g, hg⟩ : ∃ g, g = w1.heap.size := ⟨_, rfl⟩
  rw [← hg] at hs ⊢
  have hWg : W.heap.size ≤ g := by rw [hg]; exact HB1.out.size
  have H0 := Lib.hid (RowRel.first seen_new hs (HB1.out.trans (hb.mono HB1.out.size)))
  clear hs hb hg
  go_wp2_with fail
  obtain ⟨L, hL⟩ : ∃ L, L = w2.heap.size := ⟨_, rfl⟩
  rw [← hL] at H0 ⊢
  clear hL
  go_loopw [6] (fun ix wr => ∃ (j asked : Nat) (s : Fl), j ≤ n ∧ j ≤ 100 ∧ asked ≤ j ∧ ix = .int .i64 j ∧ RowRel seenOf W wr g L s asked) (fun ix _ => 100 - (intOf ix).toNat)
  case atStart => exact ⟨0, 0, Fl.new, by omega, by omega, by omega, rfl, H0.out⟩
  case round =>
    obtain ⟨j, asked, s, hj, hj100, haj, rfl, hr⟩ := hrel
    have HE := Lib.hid hr
    clear hr
    by_cases hgo : j < n ∧ j < 100
    · obtain ⟨hlt, h100⟩ := hgo
      have q1 : decide (j < n) = true := decide_eq_true hlt
      have q2 : decide ((j : Int) < 100) = true := decide_eq_true (by omega)
      obtain ⟨r, hr⟩ : ∃ r, rs[j]? = some r := ⟨_, List.getElem?_eq_getElem (by have := HNN.out; omega)⟩
      obtain ⟨b, off, rv, rfl, hrc, hri⟩ := (HR.out.below HE.out.below).lies hr
      obtain ⟨ar, cr, rfl, hcr1, hcr2, hcr⟩ := hri
      have hj0 : (0 : Int) ≤ (j : Int) := by omega
      have hjn : (j : Int) < (n : Int) := by omega
      by_cases hl2 : r.length = 2
      · obtain ⟨x, y, rfl⟩ : ∃ x y, r = [x, y] := by
          rcases r with _ | ⟨x, _ | ⟨y, _ | ⟨z, r⟩⟩⟩ <;> simp at hl2
          exact ⟨x, y, rfl⟩
        simp only [List.length_cons, List.length_nil, Nat.zero_add] at hrc
        -- the row of the argument, in whatever later world
        obtain ⟨b', off', rv', e1, hrc0, hri0⟩ := HR.out.lies hr
        cases e1
        have hbW : b < W.heap.size := World.block_lt_of_cell? W _ hrc0
        have ervv : rv' = .slice ar 2 cr := by
          have h1 := HE.out.below.cell (p := ⟨b, off + j, none⟩) hbW
          rw [hrc0] at h1
          rw [h1] at hrc
          simpa using hrc
        subst ervv
        obtain ⟨ar', cr', e2, -, -, hcr0⟩ := hri0
        cases e2
        obtain ⟨br, orr, rfl, hbr, hcx0⟩ := hcr0 (by simp)
        have HX0 := Lib.hid (hcx0 0 x rfl)
        obtain ⟨br', orr', e3, hbr', hcx⟩ := hcr (by simp)
        cases e3
        have hx := hcx 0 x rfl
        have hy := hcx 1 y rfl
        simp only [Nat.add_zero] at hx HX0
        clear hcr hcx hr hl2 hcr0 hcx0 hbr' hrc0
        go_wp2_with fail
        go_still_tail 11, (by kernel_rfl)
        change wpList _ _ _ _ _ wr.drew
        go_wp2_with fail
        have HED := Lib.hid (HE.out.later (Below.refl _ _).drew)
        by_cases hin : (0 ≤ x ∧ x ≤ 7) ∧ (0 ≤ y ∧ y ≤ 1000)
        · obtain ⟨p, rfl⟩ : ∃ p : Nat, x = p := ⟨x.toNat, by omega⟩
          have hp8 : p < 8 := by omega
          have D := Lib.hid (decide_eq_true hin.1)
          refine (fwrite_walk _ g (g + 1) g s p y HED.out.is HED.out.ok hp8 hin.2 (HED.out.times (by omega))).mono ?_
          rintro _ w5 ⟨rfl, hs5, hb5, hk5⟩
          have hmid := HED.out.mid hWg (p := (p, y)) hs5 hb5 hk5
          have HMID := Lib.hid hmid
          have hx5 := HX0.out
          rw [← hmid.below.cell (p := ⟨br, orr, none⟩) hbr] at hx5
          obtain ⟨⟨vL, cL⟩, fL⟩ := hmid.cells seen_length hp8
          have HST := Lib.hid (hmid.stored hWg hp8 (seen_step HED.out.ok hp8))
          have hp0 : (0 : Int) ≤ (p : Int) := by omega
          have hpi : (p : Int) < 8 := by omega
          clear hs5 hb5 hk5 hmid hin hx hy
          go_wp2_with fail
          refine (law_inF _ _ _ _).mono ?_
          rw [D.out]
          rintro _ w6 ⟨rfl, rfl⟩
          go_wp2_with fail
          go_roundw
          case rel => exact ⟨j + 1, asked + 1, _, by omega, by omega, by omega, by go_num, HST.out⟩
          case measure => simp [intOf]; omega
        · refine (fwrite_no _ g x y hin).mono ?_
          rintro _ w5 ⟨rfl, rfl⟩
          clear hin
          go_wp2_with fail
          go_roundw
          case rel => exact ⟨j + 1, asked, s, by omega, by omega, by omega, by go_num, HED.out⟩
          case measure => simp [intOf]; omega
      · have q3 : ((r.length : Int) == 2) = false := beq_eq_false_iff_ne.2 (by omega)
        have hcm : r.length ≤ 9223372036854775807 := by unfold maxLen at hcr2; omega
        obtain ⟨m, hm⟩ : ∃ m, m = r.length := ⟨_, rfl⟩
        rw [← hm] at q3 hrc hcm
        clear hcr hr hl2 hm hcr1
        go_wp2_with fail
        go_quiet (fail)
        go_wp2_with fail
        go_roundw
        case rel => exact ⟨j + 1, asked, s, by omega, by omega, by omega, by go_num, HE.out.later (below_drewN' _ _)⟩
        case measure => simp [intOf]; omega
    · have hcase : decide (j < n) = false ∨ (decide (j < n) = true ∧ decide ((j : Int) < 100) = false) := by
        by_cases h : j < n
        · exact .inr ⟨decide_eq_true h, decide_eq_false (by omega)⟩
        · exact .inl (decide_eq_false h)
      clear hgo
      rcases hcase with q1 | ⟨q1, q2⟩
      all_goals
        go_wp2_with fail
        go_loopw [8, 9, 10] (fun sv ev ix wr => ∃ (k : Nat), k ≤ 6 ∧ ix = .int .i64 k ∧ sv = .int .i64 (liveN s k : Nat) ∧ ev = .int .i64 (spareN s k : Nat) ∧ RowRel seenOf W wr g L s asked) (fun _ _ ix _ => 6 - (intOf ix).toNat)
        case atStart => exact ⟨0, by omega, rfl, rfl, rfl, HE.out⟩
        case round =>
          obtain ⟨k, hk, rfl, rfl, rfl, hr⟩ := hrel
          have HE6 := Lib.hid hr
          have hsp := spareN_le s k
          by_cases hlt : k < 6
          · have q3 : decide ((k : Int) < 6) = true := decide_eq_true (by omega)
            have hln : liveN s k ≤ 100 := by
              have : ∀ k, k ≤ 6 → liveN s k ≤ k * 4 := by
                intro k
                induction k with
                | zero => intro _; simp [liveN]
                | succ k ih =>
                  intro h
                  rw [liveN_step]
                  have h1 := ih (by omega)
                  have h2 := s.liveTo_length k (s.row k).length
                  have h3 := hr.ok.small k
                  unfold Fl.live
                  omega
              have := this k (by omega)
              omega
            have HLS := Lib.hid (liveN_step s k)
            have hlr : (s.live k).length ≤ (s.row k).length := s.liveTo_length k _
            have hr4 := hr.ok.small k
            have HACT := Lib.hid (active_walk _ g (g + 1) g s hr.is)
            have hact := hr.is.act
            go_wp2_with fail
            refine (block_walk _ g (g + 1) g s k HE6.out.is HE6.out.ok hlt).mono ?_
            rintro _ w7 ⟨rfl, hb7⟩
            have HE7 := Lib.hid (HE6.out.later hb7)
            clear hb7 hr HACT
            have HSY := Lib.hid (fun h => @spareN_yes s k h)
            have HSN := Lib.hid (fun h => @spareN_no s k h)
            obtain ⟨ac, hac⟩ : ∃ ac, ac = s.act := ⟨_, rfl⟩
            have HAC := Lib.hid hac
            rw [← hac] at HSY HSN hact
            obtain ⟨rl, hrl⟩ : ∃ rl, rl = (s.row k).length := ⟨_, rfl⟩
            obtain ⟨ll, hll⟩ : ∃ ll, ll = (s.live k).length := ⟨_, rfl⟩
            obtain ⟨ln, hln'⟩ : ∃ ln, ln = liveN s k := ⟨_, rfl⟩
            obtain ⟨sp, hsp'⟩ : ∃ sp, sp = spareN s k := ⟨_, rfl⟩
            rw [← hrl] at HSY HSN hlr hr4 ⊢
            rw [← hll] at HLS hlr ⊢
            rw [← hln'] at HLS hln ⊢
            rw [← hsp'] at HSY HSN hsp ⊢
            have D4 := Lib.hid (decide_eq_true (show (0 : Int) ≤ (rl : Int) ∧ (rl : Int) ≤ 4 by omega))
            have q4 : decide (rl < ll) = false := decide_eq_false (by omega)
            clear hac hrl hll hln' hsp'
            go_wp2_with fail
            refine (law_inF _ _ _ _).mono ?_
            rw [D4.out]
            rintro _ w8 ⟨rfl, rfl⟩
            by_cases hr0 : rl = 0
            · have q5 : ((rl : Int) == 0) = true := beq_iff_eq.2 (by omega)
              have HR0 := Lib.hid hr0
              clear hr0
              go_wp2_with fail
              refine (active_walk _ g (g + 1) g s HE7.out.is).mono ?_
              rw [← HAC.out]
              rintro _ w9 ⟨rfl, rfl⟩
              by_cases hka : k = ac
              · have q6 : ((k : Int) != (ac : Int)) = false := by simp [hka]
                have q6' : ((k : Int) == (ac : Int)) = true := by simp [hka]
                have HX := Lib.hid (HSN.out (fun h => h.2 hka))
                clear hka
                go_wp2_with fail
                go_roundw
                case rel => exact ⟨k + 1, by omega, by go_num, by rw [HLS.out]; go_num, by rw [HX.out], HE7.out⟩
                case measure => simp [intOf]; omega
              · have q6 : ((k : Int) != (ac : Int)) = true := by simp; omega
                have q6' : ((k : Int) == (ac : Int)) = false := by simp; omega
                have HX := Lib.hid (HSY.out ⟨HR0.out, hka⟩)
                clear hka
                go_wp2_with fail
                go_roundw
                case rel => exact ⟨k + 1, by omega, by go_num, by rw [HLS.out]; go_num, by rw [HX.out]; go_num, HE7.out⟩
                case measure => simp [intOf]; omega
            · have q5 : ((rl : Int) == 0) = false := beq_eq_false_iff_ne.2 (by omega)
              have HX := Lib.hid (HSN.out (fun h => hr0 h.1))
              clear hr0
              go_wp2_with fail
              go_roundw
              case rel => exact ⟨k + 1, by omega, by go_num, by rw [HLS.out]; go_num, by rw [HX.out], HE7.out⟩
              case measure => simp [intOf]; omega
          · obtain rfl : k = 6 := by omega
            have e1 := liveN_6 hr.ok
            have e2 := spareN_6 hr.ok
            have HHI := Lib.hid (HasInts.of_own (l := seenOf s) hr.row).2
            have HSS := Lib.hid (show (seenOf s).sum = (liveN s 6 : Nat) by rw [e1]; exact seen_sum s)
            obtain ⟨lv, hlv⟩ : ∃ lv, lv = liveN s 6 := ⟨_, rfl⟩
            obtain ⟨sp, hsp'⟩ : ∃ sp, sp = spareN s 6 := ⟨_, rfl⟩
            rw [← hlv] at HSS ⊢
            rw [← hsp'] at e2 hsp ⊢
            have q7 : decide ((0 : Int) < (sp : Int)) = true := decide_eq_true (by omega)
            have q7' : decide (0 < sp) = true := decide_eq_true e2
            have q8 : ((lv : Int) == (lv : Int)) = true := by simp
            clear hr e1 hlv hsp'
            go_wp2_with fail
            refine (sum_anyS _ (seenOf s) _ HHI.out (by rw [seen_length]; omega) (seen_bounds s)).mono ?_
            rw [HSS.out]
            rintro _ w9 ⟨rfl, rfl⟩
            go_wp2_with fail
            go_ret
            exact ⟨rfl, HE6.out.below⟩

end Go.Proofs.Ytglcljeeigilnaa
