/- The walk of DeskLines. -/
import Derived.Test.YtfofepmkjjeldaaGreatDoorRun3
namespace Go.Proofs.YtfofepmkjjeldaaGreatDoor
open Go.RowKit

theorem count_stepD (l : List UInt8) (j : Nat) (h : j < l.length) : (l.take (j + 1)).count 10 = (l.take j).count 10 + if l[j] = 10 then 1 else 0 := by
  rw [List.take_succ_eq_append_getElem h, List.count_append]
  congr 1
  by_cases h1 : l[j] = 10
  · rw [if_pos h1, h1]; rfl
  · rw [if_neg h1, List.count_eq_zero_of_not_mem (by simp only [List.mem_singleton]; exact fun e => h1 e.symm)]
theorem count_leD (l : List UInt8) (k : Nat) : (l.take k).count 10 ≤ k := Nat.le_trans List.count_le_length (by rw [List.length_take]; omega)

/-- lines counted so far -/
def linesTo (l : List UInt8) (j : Nat) : Nat := (l.take j).count 10 + (if j = l.length ∧ tailLine l ≠ [] then 1 else 0)
theorem linesTo_zero {l : List UInt8} : linesTo l 0 = 0 := by
  unfold linesTo
  by_cases h : 0 = l.length ∧ tailLine l ≠ []
  · have : l = [] := List.length_eq_zero_iff.1 h.1.symm
    subst this
    exact absurd rfl h.2
  · rw [if_neg h]; rfl
theorem linesTo_all (l : List UInt8) : linesTo l l.length = (deskLines l).length := by
  unfold linesTo
  rw [List.take_length, lines_count]
  by_cases h : tailLine l = []
  · rw [if_neg (fun e => e.2 h), if_pos h]
  · rw [if_pos ⟨rfl, h⟩, if_neg h]
theorem tail_last {l : List UInt8} {j : Nat} (hj : j + 1 = l.length) (h : j < l.length) : tailLine l = [] ↔ l[j] = 10 := by
  constructor
  · intro ht
    rcases tail_nil ht with rfl | ⟨r, rfl⟩
    · simp at hj
    · have : j = r.length := by simp at hj; omega
      subst this
      simp
  · intro h10
    refine tail_end (.inr ⟨l.take j, ?_⟩)
    have h1 := List.take_succ_eq_append_getElem h
    rw [h10, hj, List.take_length] at h1
    exact h1
theorem linesTo_step (l : List UInt8) (j : Nat) (h : j < l.length) : linesTo l (j + 1) = linesTo l j + if l[j] = 10 ∨ j + 1 = l.length then 1 else 0 := by
  have e0 : (if j = l.length ∧ tailLine l ≠ [] then 1 else 0) = 0 := if_neg (fun e => by omega)
  unfold linesTo
  rw [count_stepD l j h, e0]
  by_cases h10 : l[j] = 10
  · have e1 : (if j + 1 = l.length ∧ tailLine l ≠ [] then 1 else 0) = 0 := if_neg (fun e => e.2 ((tail_last e.1 h).2 h10))
    have e2 : (if l[j] = 10 ∨ j + 1 = l.length then 1 else 0) = 1 := if_pos (.inl h10)
    have e3 : (if l[j] = 10 then 1 else 0) = 1 := if_pos h10
    rw [e1, e2, e3]
  · have e3 : (if l[j] = 10 then 1 else 0) = 0 := if_neg h10
    by_cases he : j + 1 = l.length
    · have e1 : (if j + 1 = l.length ∧ tailLine l ≠ [] then 1 else 0) = 1 := if_pos ⟨he, fun e => h10 ((tail_last he h).1 e)⟩
      have e2 : (if l[j] = 10 ∨ j + 1 = l.length then 1 else 0) = 1 := if_pos (.inr he)
      rw [e1, e2, e3]
    · have e1 : (if j + 1 = l.length ∧ tailLine l ≠ [] then 1 else 0) = 0 := if_neg (fun e => he e.1)
      have e2 : (if l[j] = 10 ∨ j + 1 = l.length then 1 else 0) = 0 := if_neg (by rintro (e | e); exact h10 e; exact he e)
      rw [e1, e2, e3]
theorem linesTo_le (l : List UInt8) (j : Nat) : linesTo l j ≤ j + 1 := by
  unfold linesTo
  have := count_leD l j
  split <;> omega

set_option maxRecDepth 100000 in
set_option maxHeartbeats 8000000 in
theorem dlines_walk (a0 : ByteArray) (W : World) (h0 : a0.size ≤ 140737488351232) (hH : Handled W) (hE : Env W.heap.size W) :
    Calls Tryz.prog 7 #[.string a0] W fun e w' => e = .returned (.bool true) ∧ Below W.heap.size W w' := by
  have HE := Lib.hid hE
  have HH : Hid (Hand W.heap.size W) := Lib.hid (fun w' hb => hH.below hb)
  clear hE hH
  go_enter Tryz.func7, Tryz.ntmps7
  go_wp2_with fail
  refine (run_text ⟨#[119, 114, 105, 116, 101, 32, 49, 32, 50, 10, 10, 98]⟩ W W.heap.size (Nat.le_refl _) HE.out HH.out (by decide)).mono ?_
  rintro _ w1 ⟨rfl, hb1⟩
  rw [show (⟨(runT (⟨#[119, 114, 105, 116, 101, 32, 49, 32, 50, 10, 10, 98]⟩ : ByteArray).data.toList).toArray⟩ : ByteArray) = ⟨#[111, 107, 10, 98, 97, 100, 10, 98, 97, 100, 10]⟩ from congrArg (fun l : List UInt8 => (⟨l.toArray⟩ : ByteArray)) fact_lines]
  have HB1 := Lib.hid hb1
  clear hb1
  go_wp2_with fail
  refine (run_text a0 w1 W.heap.size HB1.out.size (HE.out.on HB1.out) (HH.out.on HB1.out) (by omega)).mono ?_
  rintro _ w2 ⟨rfl, hb2⟩
  have HB2 := Lib.hid (HB1.out.trans (hb2.mono HB1.out.size))
  clear hb2
  have hl : a0.data.toList.length = a0.size := rfl
  by_cases hbig : 3000 < a0.size
  · have q1 : decide ((3000 : Int) < (a0.size : Int)) = true := decide_eq_true (by omega)
    have hr : runT a0.data.toList = [116, 111, 111, 32, 108, 111, 110, 103, 10] := by unfold runT; rw [if_pos (by omega)]; rfl
    rw [hr]
    clear hr hl
    go_wp2_with fail
    go_ret
    exact ⟨rfl, HB2.out⟩
  have q1 : decide ((3000 : Int) < (a0.size : Int)) = false := decide_eq_false (by omega)
  have hrl := runT_small (t := a0.data.toList) (by omega)
  have hcnt : (runT a0.data.toList).count 10 = (deskLines a0.data.toList).length := by rw [hrl]; exact sessT_count _ _
  have hends : Whole (runT a0.data.toList) := by rw [hrl]; exact sessT_ends _ _
  have hlen : (runT a0.data.toList).length ≤ 10000000 := by
    rw [hrl]
    have h1 := sessT_len (deskLines a0.data.toList) Bk.new Reach.new
    have h2 := linesTo_le a0.data.toList a0.data.toList.length
    rw [linesTo_all] at h2
    have h3 : (deskLines a0.data.toList).length ≤ 3001 := by omega
    have := Nat.mul_le_mul_right 101 h3
    omega
  obtain ⟨x, hx⟩ := named (runT a0.data.toList)
  have hxl : x.data.toList = runT a0.data.toList := by rw [hx]
  rw [← hxl] at hcnt hends hlen
  rw [← hx]
  have hxs : x.data.toList.length = x.size := rfl
  have HXL := Lib.hid hxs
  have HCNT := Lib.hid hcnt
  have HENDS := Lib.hid hends
  have HL := Lib.hid hl
  have hx7 : x.size ≤ 10000000 := by omega
  clear hrl hcnt hends hlen hx hxl hxs hl
  go_wp2_with fail
  clear q1
  go_loop [5, 6] (fun ln ix => ∃ k : Nat, k ≤ a0.size ∧ ix = .int .i64 (k : Nat) ∧ ln = .int .i64 ((linesTo a0.data.toList k : Nat) : Int)) (fun _ ix => a0.size - (intOf ix).toNat)
  case atStart => exact ⟨0, Nat.zero_le _, rfl, by rw [linesTo_zero]; rfl⟩
  case round =>
    obtain ⟨k, hk, rfl, rfl⟩ := hrel
    obtain ⟨m, hm⟩ : ∃ m, m = linesTo a0.data.toList k := ⟨_, rfl⟩
    have hm1 : m ≤ k + 1 := by rw [hm]; exact linesTo_le _ _
    rw [← hm]
    have HM := Lib.hid hm
    clear hm
    by_cases hlt : k < a0.size
    · have q3 : decide (k < a0.size) = true := decide_eq_true hlt
      have hkl : k < a0.data.toList.length := by rw [HL.out]; exact hlt
      have hst := linesTo_step a0.data.toList k hkl
      rw [← HM.out] at hst
      have hcc : a0.data.toList[k] = a0[k] := rfl
      rw [hcc, HL.out] at hst
      have HST := Lib.hid hst
      have s1 : IntKind.i64.wrap ((a0.size : Int) - 1) = (a0.size : Int) - 1 := IntWalk.i64_in _ (by omega)
      clear hst hcc
      by_cases hc : a0[k] = 10
      · have q4 : (((a0[k]).toNat : Int) == 10) = true := by rw [hc]; rfl
        have HFIN : Hid (linesTo a0.data.toList (k + 1) = m + 1) := Lib.hid (by rw [HST.out, if_pos (.inl hc)])
        clear HST hc
        go_wp2_with fail
        go_round
        case rel => exact ⟨k + 1, by omega, by go_num, by rw [HFIN.out]; go_num⟩
        case measure => simp [intOf]; omega
      · have q4 : (((a0[k]).toNat : Int) == 10) = false := beq_eq_false_iff_ne.2 (fun e => hc (UInt8.toNat_inj.1 (by have h : (10 : UInt8).toNat = 10 := rfl; rw [h]; omega)))
        by_cases he : k + 1 = a0.size
        · have q5 : ((k : Int) == (a0.size : Int) - 1) = true := beq_iff_eq.2 (by omega)
          have HFIN : Hid (linesTo a0.data.toList (k + 1) = m + 1) := Lib.hid (by rw [HST.out, if_pos (.inr he)])
          have HE1 := Lib.hid he
          clear HST hc he
          go_wp2_with fail
          go_round
          case rel => exact ⟨k + 1, by omega, by go_num, by rw [HFIN.out]; go_num⟩
          case measure => simp [intOf]; omega
        · have q5 : ((k : Int) == (a0.size : Int) - 1) = false := beq_eq_false_iff_ne.2 (by omega)
          have HFIN : Hid (linesTo a0.data.toList (k + 1) = m) := Lib.hid (by rw [HST.out, if_neg (by rintro (e | e); exact hc e; exact he e), Nat.add_zero])
          clear HST hc
          go_wp2_with fail
          go_round
          case rel => exact ⟨k + 1, by omega, by go_num, by rw [HFIN.out]⟩
          case measure => simp [intOf]; omega
    · obtain rfl : k = a0.size := by omega
      have q3 : decide (a0.size < a0.size) = false := decide_eq_false (by omega)
      have hmd : m = x.data.toList.count 10 := by rw [HM.out, HCNT.out, ← HL.out]; exact linesTo_all _
      have HMD := Lib.hid hmd
      clear hmd
      go_wp2_with fail
      clear q3
      go_loop [7, 8] (fun ln ix => ∃ k : Nat, k ≤ x.size ∧ ix = .int .i64 (k : Nat) ∧ ln = .int .i64 (((x.data.toList.take k).count 10 : Nat) : Int)) (fun _ ix => x.size - (intOf ix).toNat)
      case atStart => exact ⟨0, Nat.zero_le _, rfl, rfl⟩
      case round =>
        obtain ⟨j, hj, rfl, rfl⟩ := hrel
        have hcj := count_leD x.data.toList j
        obtain ⟨n, hn⟩ : ∃ n, n = (x.data.toList.take j).count 10 := ⟨_, rfl⟩
        rw [← hn] at hcj ⊢
        have HN := Lib.hid hn
        clear hn
        by_cases hlt : j < x.size
        · have q3 : decide (j < x.size) = true := decide_eq_true hlt
          have hjl : j < x.data.toList.length := by rw [HXL.out]; exact hlt
          have hst := count_stepD x.data.toList j hjl
          rw [← HN.out] at hst
          have hcc : x.data.toList[j] = x[j] := rfl
          rw [hcc] at hst
          have HST := Lib.hid hst
          clear hst hcc
          by_cases hc : x[j] = 10
          · have q4 : (((x[j]).toNat : Int) == 10) = true := by rw [hc]; rfl
            have HFIN : Hid ((x.data.toList.take (j + 1)).count 10 = n + 1) := Lib.hid (by rw [HST.out, if_pos hc])
            clear HST hc
            go_wp2_with fail
            go_round
            case rel => exact ⟨j + 1, by omega, by go_num, by rw [HFIN.out]; go_num⟩
            case measure => simp [intOf]; omega
          · have q4 : (((x[j]).toNat : Int) == 10) = false := beq_eq_false_iff_ne.2 (fun e => hc (UInt8.toNat_inj.1 (by have h : (10 : UInt8).toNat = 10 := rfl; rw [h]; omega)))
            have HFIN : Hid ((x.data.toList.take (j + 1)).count 10 = n) := Lib.hid (by rw [HST.out, if_neg hc, Nat.add_zero])
            clear HST hc
            go_wp2_with fail
            go_round
            case rel => exact ⟨j + 1, by omega, by go_num, by rw [HFIN.out]⟩
            case measure => simp [intOf]; omega
        · obtain rfl : j = x.size := by omega
          have q3 : decide (x.size < x.size) = false := decide_eq_false (by omega)
          have hnm : n = m := by rw [HN.out, HMD.out, ← HXL.out, List.take_length]
          subst hnm
          have hend : x.size = 0 ∨ ∃ i, x.size = i + 1 ∧ ∃ h : i < x.size, x[i] = 10 := by
            rcases HENDS.out with h | ⟨r, h⟩
            · left
              rw [← HXL.out, h]
              rfl
            · right
              have hs : x.size = r.length + 1 := by rw [← HXL.out, h]; simp
              refine ⟨r.length, hs, by omega, ?_⟩
              have h1 : x[r.length]'(by omega) = x.data.toList[r.length]'(by rw [HXL.out]; omega) := rfl
              have h2 : x.data.toList[r.length]? = some 10 := by rw [h]; simp
              rw [h1]
              rw [List.getElem?_eq_getElem (by rw [HXL.out]; omega)] at h2
              exact Option.some.inj h2
          rcases hend with he | ⟨i, hi, hlt2, h10⟩
          · have q5 : ((x.size : Int) == 0) = true := beq_iff_eq.2 (by omega)
            have q6 : ((n : Int) == (n : Int)) = true := beq_iff_eq.2 rfl
            have HEE := Lib.hid he
            clear he
            go_wp2_with fail
            go_ret
            exact ⟨rfl, HB2.out⟩
          · have q5 : ((x.size : Int) == 0) = false := beq_eq_false_iff_ne.2 (by omega)
            have s1 : IntKind.i64.wrap ((x.size : Int) - 1) = (i : Int) := by rw [IntWalk.i64_in _ (by omega)]; omega
            have q4 : (((x[i]).toNat : Int) == 10) = true := by rw [h10]; rfl
            have HII := Lib.hid hi
            clear hi h10
            go_wp2_with fail
            go_ret
            exact ⟨rfl, HB2.out⟩

end Go.Proofs.YtfofepmkjjeldaaGreatDoor
