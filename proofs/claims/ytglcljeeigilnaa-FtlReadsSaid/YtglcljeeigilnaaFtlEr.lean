/- The walk of FtlErased. -/
import Derived.Test.YtglcljeeigilnaaFtl7
import Derived.Test.YtglcljeeigilnaaReadRows
import Derived.StillTailTactics
namespace Go.Proofs.Ytglcljeeigilnaa
open Go.RowKit Ftl

theorem HasRows.lies {w : World} {a : Option Addr} {n cap : Nat} {L : List (List Int)} (h : HasRows w (.slice a n cap) L) {j : Nat} {r : List Int} (hr : L[j]? = some r) :
    ∃ b off rv, a = some ⟨b, off, none⟩ ∧ w.cell? ⟨b, off + j, none⟩ = some rv ∧ HasInts w rv r := by
  obtain ⟨a', cap', h1, -, -, h4⟩ := h
  cases h1
  obtain ⟨b, off, h5, -, h6⟩ := h4 (Nat.lt_of_le_of_lt (Nat.zero_le _) (List.getElem?_eq_some_iff.1 hr).1)
  obtain ⟨rv, h7, h8⟩ := h6 j r hr
  exact ⟨b, off, rv, h5, h7, h8⟩

structure ErRel (W wr : World) (g : Nat) (s : Fl) (asked : Nat) : Prop where
  is : FlashIs wr g (g + 1) g s
  ok : Ok s
  lo : asked ≤ s.tot + 4 * s.er.sum
  hi : s.tot + 4 * s.er.sum ≤ asked + s.er.sum
  below : Below W.heap.size W wr

theorem times_le (s : Fl) (b : Nat) : s.times b ≤ s.er.sum := by
  unfold Fl.times
  have key : ∀ (l : List Nat) (b : Nat), l[b]?.getD 0 ≤ l.sum := by
    intro l
    induction l with
    | nil => intro b; simp
    | cons x l ih =>
      intro b
      rcases b with _ | b
      · simp
      · have := ih b
        simp at this ⊢
        omega
  exact key _ _

theorem ErRel.times {W wr : World} {g : Nat} {s : Fl} {asked : Nat} (h : ErRel W wr g s asked) (ha : asked ≤ 100000) (b : Nat) : s.times b ≤ 999999 := by
  have h1 := times_le s b
  have h2 := h.hi
  omega

theorem ErRel.more {W wr wr' : World} {g : Nat} {s : Fl} {asked : Nat} (h : ErRel W wr g s asked) (hg : W.heap.size ≤ g) {p : Page} (hp : p.1 < 8) (hs : FlashIs wr' g (g + 1) g (s.write p)) (hb : Below g wr wr') : ErRel W wr' g (s.write p) (asked + 1) := by
  obtain ⟨h1, h2, h3⟩ := h.ok.write_tot p
  exact ⟨hs, (h.ok.write hp).1, by have := h.lo; omega, by have := h.hi; omega, h.below.trans (hb.mono hg)⟩

theorem sum_take_step (l : List Nat) (k : Nat) (h : k < l.length) : (l.take (k + 1)).sum = (l.take k).sum + l[k]?.getD 0 := by
  rw [List.take_succ_eq_append_getElem h, List.sum_append, List.getElem?_eq_getElem h]
  simp
theorem sum_take_le (l : List Nat) (k : Nat) : (l.take k).sum ≤ l.sum := by
  induction l generalizing k with
  | nil => simp
  | cons x l ih =>
    rcases k with _ | k
    · simp
    · have := ih k
      simp
      omega

set_option maxRecDepth 100000 in
set_option maxHeartbeats 4000000 in
theorem erased_walk (v0 : Value) (W : World) {rs : List (List Int)} (hv0 : RowsArg W v0 rs) :
    Calls Try.prog 6 #[v0] W fun e w' => e = .returned (.bool true) ∧ Below W.heap.size W w' := by
  have HR := Lib.hid hv0.1
  obtain ⟨a, n, cap, rfl, hnn, hc1, hc2⟩ : ∃ a n cap, v0 = .slice a n cap ∧ n = rs.length ∧ n ≤ cap ∧ cap ≤ maxLen := by
    obtain ⟨a, cap, h, h1, h2, -⟩ := hv0.1
    exact ⟨a, rs.length, cap, h, rfl, h1, h2⟩
  have hnm : n ≤ 9223372036854775807 := by unfold maxLen at hc2; omega
  have HNN := Lib.hid hnn
  clear hv0 hnn hc1 hc2
  go_enter Try.func6, Try.ntmps6
  go_wp2_with fail
  refine (ffact_walk _).mono ?_
  rintro _ w1 ⟨rfl, hb⟩
  have HB1 := Lib.hid hb
  clear hb
  go_wp2_with fail
  refine (fnew_walk _).mono ?_
  rintro _ w2 ⟨rfl, hs, hb⟩
  obtain ⟨g, hg⟩ : ∃ g, g = w1.heap.size := ⟨_, rfl⟩
  rw [← hg] at hs ⊢
  have hWg : W.heap.size ≤ g := by rw [hg]; exact HB1.out.size
  have H0 := Lib.hid (show ErRel W w2 g Fl.new 0 from ⟨hs, Fl.new_ok, by decide, by decide, HB1.out.trans (hb.mono HB1.out.size)⟩)
  clear hs hb hg
  go_wp2_with fail
  go_loopw [5, 6] (fun av ix wr => ∃ (j asked : Nat) (s : Fl), j ≤ n ∧ j ≤ 100 ∧ asked ≤ j ∧ ix = .int .i64 j ∧ av = .int .i64 asked ∧ ErRel W wr g s asked) (fun _ ix _ => 100 - (intOf ix).toNat)
  case atStart => exact ⟨0, 0, Fl.new, by omega, by omega, by omega, rfl, rfl, H0.out⟩
  case round =>
    obtain ⟨j, asked, s, hj, hj100, haj, rfl, rfl, hr⟩ := hrel
    have HE := Lib.hid hr
    clear hr
    by_cases hgo : j < n ∧ j < 100
    · obtain ⟨hlt, h100⟩ := hgo
      have q1 : decide (j < n) = true := decide_eq_true hlt
      have q2 : decide ((j : Int) < 100) = true := decide_eq_true (by omega)
      obtain ⟨r, hr⟩ : ∃ r, rs[j]? = some r := ⟨_, List.getElem?_eq_getElem (by have := HNN.out; omega)⟩
      obtain ⟨b, off, rv, rfl, hrc, hri⟩ := (HR.out.below HE.out.below).lies hr
      obtain ⟨ar, cr, rfl, hcr1, hcr2, hcr⟩ := hri
      have hj0 : (0 : Int) ≤ (j : Int) := by omega
      have hjn : (j : Int) < (n : Int) := by omega
      by_cases hl2 : r.length = 2
      · obtain ⟨x, y, rfl⟩ : ∃ x y, r = [x, y] := by
          rcases r with _ | ⟨x, _ | ⟨y, _ | ⟨z, r⟩⟩⟩ <;> simp at hl2
          exact ⟨x, y, rfl⟩
        simp only [List.length_cons, List.length_nil, Nat.zero_add] at hrc
        obtain ⟨br, orr, rfl, hbr, hcx⟩ := hcr (by simp)
        have hx := hcx 0 x rfl
        have hy := hcx 1 y rfl
        simp only [Nat.add_zero] at hx
        clear hcr hcx hr hl2
        go_wp2_with fail
        go_still_tail 11, (by kernel_rfl)
        change wpList _ _ _ _ _ wr.drew
        go_wp2_with fail
        have HED := Lib.hid (show ErRel W wr.drew g s asked from ⟨HE.out.is.drew, HE.out.ok, HE.out.lo, HE.out.hi, HE.out.below.drew⟩)
        by_cases hin : (0 ≤ x ∧ x ≤ 7) ∧ (0 ≤ y ∧ y ≤ 1000)
        · obtain ⟨p, rfl⟩ : ∃ p : Nat, x = p := ⟨x.toNat, by omega⟩
          have hp8 : p < 8 := by omega
          refine (fwrite_walk _ g (g + 1) g s p y HED.out.is HED.out.ok hp8 hin.2 (HED.out.times (by omega))).mono ?_
          rintro _ w5 ⟨rfl, hs5, hb5, -⟩
          have HE5 := Lib.hid (HED.out.more hWg (p := (p, y)) hp8 hs5 hb5)
          clear hs5 hb5 hin
          go_wp2_with fail
          go_roundw
          case rel => exact ⟨j + 1, asked + 1, _, by omega, by omega, by omega, by go_num, by go_num, HE5.out⟩
          case measure => simp [intOf]; omega
        · refine (fwrite_no _ g x y hin).mono ?_
          rintro _ w5 ⟨rfl, rfl⟩
          clear hin
          go_wp2_with fail
          go_roundw
          case rel => exact ⟨j + 1, asked, s, by omega, by omega, by omega, by go_num, rfl, HED.out⟩
          case measure => simp [intOf]; omega
      · have q3 : ((r.length : Int) == 2) = false := beq_eq_false_iff_ne.2 (by omega)
        have hcm : r.length ≤ 9223372036854775807 := by unfold maxLen at hcr2; omega
        obtain ⟨m, hm⟩ : ∃ m, m = r.length := ⟨_, rfl⟩
        rw [← hm] at q3 hrc hcm
        clear hcr hr hl2 hm hcr1
        go_wp2_with fail
        go_quiet (fail)
        go_wp2_with fail
        go_roundw
        case rel => exact ⟨j + 1, asked, s, by omega, by omega, by omega, by go_num, rfl, HE.out.is.drewN _, HE.out.ok, HE.out.lo, HE.out.hi, below_drewN HE.out.below _⟩
        case measure => simp [intOf]; omega
    · have hcase : decide (j < n) = false ∨ (decide (j < n) = true ∧ decide ((j : Int) < 100) = false) := by
        by_cases h : j < n
        · exact .inr ⟨decide_eq_true h, decide_eq_false (by omega)⟩
        · exact .inl (decide_eq_false h)
      clear hgo
      rcases hcase with q1 | ⟨q1, q2⟩
      all_goals
        go_wp2_with fail
        go_loopw [8, 9, 10] (fun sv ev ix wr => ∃ (k m e : Nat), k ≤ 6 ∧ ix = .int .i64 k ∧ sv = .int .i64 m ∧ ev = .int .i64 e ∧ e = (s.er.take k).sum ∧ m = ((s.blk.map List.length).take k).sum + 4 * e ∧ ErRel W wr g s asked) (fun _ _ ix _ => 6 - (intOf ix).toNat)
        case atStart => exact ⟨0, 0, 0, by omega, rfl, rfl, rfl, rfl, rfl, HE.out⟩
        case round =>
          obtain ⟨k, m, e, hk, rfl, rfl, rfl, he, hm, hr⟩ := hrel
          have HE6 := Lib.hid hr
          have HEE := Lib.hid he
          have HMM := Lib.hid hm
          have hbe : e ≤ s.er.sum := by rw [he]; exact sum_take_le _ _
          have hbm : m ≤ s.tot + 4 * e := by rw [hm]; have := sum_take_le (s.blk.map List.length) k; unfold Fl.tot; omega
          have hlo := hr.lo
          have hhi := hr.hi
          have hblen := hr.is.blen
          have helen := hr.is.elen
          by_cases hlt : k < 6
          · have q3 : decide ((k : Int) < 6) = true := decide_eq_true (by omega)
            have HS1 := Lib.hid (show (s.er.take (k + 1)).sum = (s.er.take k).sum + s.times k from sum_take_step _ _ (by rw [helen]; exact hlt))
            have HS2 := Lib.hid (show ((s.blk.map List.length).take (k + 1)).sum = ((s.blk.map List.length).take k).sum + (s.row k).length by
              rw [sum_take_step _ _ (by rw [List.length_map, hblen]; exact hlt), List.getElem?_map, Fl.row, List.getElem?_eq_getElem (by rw [hblen]; exact hlt)]; rfl)
            have hb1 := times_le s k
            have hb2 := hr.ok.small k
            have hb3 : s.tot + 4 * s.er.sum ≤ asked + s.er.sum := hhi
            clear hr he hm hblen helen
            go_wp2_with fail
            refine (block_walk _ g (g + 1) g s k HE6.out.is HE6.out.ok hlt).mono ?_
            rintro _ w7 ⟨rfl, hb7⟩
            have HE7 := Lib.hid (show ErRel W w7 g s asked from ⟨HE6.out.is.below hb7, HE6.out.ok, HE6.out.lo, HE6.out.hi, HE6.out.below.trans (hb7.mono HE6.out.below.size)⟩)
            clear hb7
            obtain ⟨t, ht⟩ : ∃ t, t = s.times k := ⟨_, rfl⟩
            obtain ⟨rl, hrl⟩ : ∃ rl, rl = (s.row k).length := ⟨_, rfl⟩
            rw [← ht] at HS1 hb1 ⊢
            rw [← hrl] at HS2 hb2 ⊢
            clear ht hrl
            go_wp2_with fail
            go_roundw
            case rel => exact ⟨k + 1, m + rl + 4 * t, e + t, by omega, by go_num, by go_num, by go_num, by rw [HS1.out, HEE.out], by rw [HS2.out, HMM.out]; omega, HE7.out⟩
            case measure => simp [intOf]; omega
          · obtain rfl : k = 6 := by omega
            have e1 : e = s.er.sum := by rw [he, List.take_of_length_le (by rw [helen]; omega)]
            have e2 : m = s.tot + 4 * s.er.sum := by rw [hm, List.take_of_length_le (by simp [hblen]), e1]; rfl
            have q4 : decide (asked ≤ m) = true := decide_eq_true (by omega)
            have q5 : decide ((m : Int) ≤ (asked : Int) + (e : Int)) = true := decide_eq_true (by omega)
            have ha2 : asked ≤ 100 := by omega
            have he2 : e ≤ 100 := by omega
            clear hr he hm e1 e2 hlo hhi hbm hbe hblen helen
            go_wp2_with fail
            go_ret
            exact ⟨rfl, HE6.out.below⟩

end Go.Proofs.Ytglcljeeigilnaa
