/- The walk of DeskBegins. -/
import Derived.Test.YtfofepmkjjeldaaGreatDoorRun3
namespace Go.Proofs.YtfofepmkjjeldaaGreatDoor
open Go.RowKit

theorem extract_takeS (s : ByteArray) (n : Nat) : (s.extract 0 n).data.toList = s.data.toList.take n := by
  rw [ByteArray.data_extract]
  simp

set_option maxRecDepth 100000 in
set_option maxHeartbeats 8000000 in
theorem dbegins_walk (a0 : ByteArray) (k0 : Int) (W : World) (h0 : a0.size ≤ 140737488351232) (_ : -9223372036854775808 ≤ k0 ∧ k0 ≤ 9223372036854775807) (hH : Handled W) (hE : Env W.heap.size W) :
    Calls Tryz.prog 6 #[.string a0, .int .i64 k0] W fun e w' => e = .returned (.bool true) ∧ Below W.heap.size W w' := by
  have HE := Lib.hid hE
  have HH : Hid (Hand W.heap.size W) := Lib.hid (fun w' hb => hH.below hb)
  clear hE hH
  go_enter Tryz.func6, Tryz.ntmps6
  go_wp2_with fail
  refine (run_text ⟨#[119, 97, 105, 116, 115]⟩ W W.heap.size (Nat.le_refl _) HE.out HH.out (by decide)).mono ?_
  rintro _ w1 ⟨rfl, hb1⟩
  rw [show (⟨(runT (⟨#[119, 97, 105, 116, 115]⟩ : ByteArray).data.toList).toArray⟩ : ByteArray) = ⟨#[48, 10]⟩ from congrArg (fun l : List UInt8 => (⟨l.toArray⟩ : ByteArray)) fact_waits]
  have HB1 := Lib.hid hb1
  clear hb1
  by_cases hok : a0.size ≤ 3000 ∧ 0 ≤ k0 ∧ k0 ≤ (a0.size : Int)
  rotate_left
  · have hcase : decide ((3000 : Int) < (a0.size : Int)) = true ∨ (decide ((3000 : Int) < (a0.size : Int)) = false ∧ decide (k0 < 0) = true) ∨ (decide ((3000 : Int) < (a0.size : Int)) = false ∧ decide (k0 < 0) = false ∧ decide ((a0.size : Int) < k0) = true) := by
      by_cases h1 : 3000 < a0.size
      · exact .inl (decide_eq_true (by omega))
      · by_cases h2 : k0 < 0
        · exact .inr (.inl ⟨decide_eq_false (by omega), decide_eq_true h2⟩)
        · exact .inr (.inr ⟨decide_eq_false (by omega), decide_eq_false h2, decide_eq_true (by omega)⟩)
    clear hok
    rcases hcase with q1 | ⟨q1, q2⟩ | ⟨q1, q2, q3⟩
    all_goals
      go_wp2_with fail
      go_ret
      exact ⟨rfl, HB1.out⟩
  obtain ⟨hsz, hk0, hk1⟩ := hok
  obtain ⟨n, rfl⟩ : ∃ n : Nat, k0 = n := ⟨k0.toNat, by omega⟩
  have hn : n ≤ a0.size := by omega
  have q1 : decide ((3000 : Int) < (a0.size : Int)) = false := decide_eq_false (by omega)
  have q2 : decide ((n : Int) < 0) = false := decide_eq_false (by omega)
  have q3 : decide ((a0.size : Int) < (n : Int)) = false := decide_eq_false (by omega)
  have q3n : ¬ (a0.size < n) := by omega
  have hl : a0.data.toList.length = a0.size := rfl
  have HL := Lib.hid hl
  clear hk0 hk1 hl
  go_wp2_with fail
  clear q1 q2 q3 q3n
  go_loop [1] (fun ix => ∃ k : Nat, k ≤ n ∧ ix = .int .i64 (k : Nat)) (fun ix => (intOf ix).toNat)
  case atStart => exact ⟨n, Nat.le_refl _, rfl⟩
  case round =>
    obtain ⟨k, hk, rfl⟩ := hrel
    have hfin : (k = 0 ∨ ∃ i, k = i + 1 ∧ ∃ h : i < a0.size, a0[i] = 10) ∨ ∃ i, k = i + 1 ∧ ∃ h : i < a0.size, a0[i] ≠ 10 := by
      cases k with
      | zero => exact .inl (.inl rfl)
      | succ i =>
        by_cases h10 : a0[i]'(by omega) = 10
        · exact .inl (.inr ⟨i, rfl, by omega, h10⟩)
        · exact .inr ⟨i, rfl, by omega, h10⟩
    rcases hfin with hend | ⟨i, rfl, hi, h10⟩
    rotate_left
    · have q1 : decide ((0 : Int) < ((i + 1 : Nat) : Int)) = true := decide_eq_true (by omega)
      have q2 : (((a0[i]).toNat : Int) != 10) = true := bne_iff_ne.2 (fun e => h10 (UInt8.toNat_inj.1 (by have h : (10 : UInt8).toNat = 10 := rfl; rw [h]; omega)))
      clear h10
      go_wp2_with fail
      go_round
      case rel => exact ⟨i, by omega, by first | rfl | (congr 1; omega) | (congr 1; rw [IntWalk.i64_in _ (by omega)]; omega)⟩
      case measure => first | (simp [intOf]; done) | (simp [intOf]; omega)
    · have htail : tailLine (a0.data.toList.take k) = [] := by
        refine tail_end ?_
        rcases hend with rfl | ⟨i, rfl, hi, h10⟩
        · exact .inl rfl
        · right
          have hil : i < a0.data.toList.length := by rw [HL.out]; exact hi
          refine ⟨a0.data.toList.take i, ?_⟩
          rw [List.take_succ_eq_append_getElem hil]
          have h1 : a0[i] = a0.data.toList[i] := rfl
          rw [← h1, h10]
      have hpre := run_front (t := a0.data.toList) (k := k) (by rw [HL.out]; exact hsz) htail
      have HPRE := Lib.hid hpre
      have hks : k ≤ a0.size := by omega
      have HR1 := Lib.hid (run_text (a0.extract 0 k) w1 W.heap.size HB1.out.size (HE.out.on HB1.out) (HH.out.on HB1.out) (by rw [ByteArray.size_extract]; omega))
      obtain ⟨x, hx⟩ := named (runT (a0.data.toList.take k))
      obtain ⟨y, hy⟩ := named (runT a0.data.toList)
      rw [extract_takeS, ← hx] at HR1
      have hxs : x.size = (runT (a0.data.toList.take k)).length := by rw [hx, str_size]
      have hys : y.size = (runT a0.data.toList).length := by rw [hy, str_size]
      have hxy : x.size ≤ y.size := by rw [hxs, hys]; exact hpre.length_le
      have hyx : y.extract 0 x.size = x := by
        apply ByteArray.ext
        apply Array.toList_inj.1
        rw [extract_takeS, hxs]
        have h1 : y.data.toList = runT a0.data.toList := by rw [hy]
        have h2 : x.data.toList = runT (a0.data.toList.take k) := by rw [hx]
        rw [h1, h2]
        exact (List.prefix_iff_eq_take.1 hpre).symm
      have HYX := Lib.hid hyx
      have HY := Lib.hid hy
      have z1 : decide ((x.size : Int) ≤ (y.size : Int)) = true := decide_eq_true (by omega)
      have z2 : decide (x.size ≤ y.size) = true := decide_eq_true hxy
      have z3 : (x.size : Int) ≤ (y.size : Int) := by omega
      have q4 : (k : Int) ≤ (a0.size : Int) := by omega
      rcases hend with h0 | ⟨i, rfl, hi, h10⟩
      · subst h0
        clear hpre htail hx hy hxs hys hyx hxy
        have he0 : a0.extract 0 0 = ByteArray.empty := by
          apply ByteArray.ext
          apply Array.toList_inj.1
          rw [extract_takeS]
          rfl
        rw [he0] at HR1
        clear he0
        go_wp2_with fail
        refine HR1.out.mono ?_
        rintro _ w2 ⟨rfl, hb2⟩
        have HB2 := Lib.hid (HB1.out.trans (hb2.mono HB1.out.size))
        clear hb2
        go_wp2_with fail
        refine (run_text a0 w2 W.heap.size HB2.out.size (HE.out.on HB2.out) (HH.out.on HB2.out) (by omega)).mono ?_
        rintro _ w3 ⟨rfl, hb3⟩
        rw [← HY.out]
        have HB3 := Lib.hid (HB2.out.trans (hb3.mono HB2.out.size))
        have hyx := HYX.out
        clear hb3
        go_wp2_with fail
        go_ret
        exact ⟨rfl, HB3.out⟩
      · have q1 : decide ((0 : Int) < ((i + 1 : Nat) : Int)) = true := decide_eq_true (by omega)
        have q2 : (((a0[i]).toNat : Int) != 10) = false := by rw [h10]; rfl
        clear hpre htail hx hy hxs hys hyx hxy h10
        go_wp2_with fail
        refine HR1.out.mono ?_
        rintro _ w2 ⟨rfl, hb2⟩
        have HB2 := Lib.hid (HB1.out.trans (hb2.mono HB1.out.size))
        clear hb2
        go_wp2_with fail
        refine (run_text a0 w2 W.heap.size HB2.out.size (HE.out.on HB2.out) (HH.out.on HB2.out) (by omega)).mono ?_
        rintro _ w3 ⟨rfl, hb3⟩
        rw [← HY.out]
        have HB3 := Lib.hid (HB2.out.trans (hb3.mono HB2.out.size))
        have hyx := HYX.out
        clear hb3
        go_wp2_with fail
        go_ret
        exact ⟨rfl, HB3.out⟩

end Go.Proofs.YtfofepmkjjeldaaGreatDoor
