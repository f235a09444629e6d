/- The walk of TopDesk. -/
import Derived.Test.YtfofepmkjjeldaaGreatDoorDKeeps2
import Derived.Test.YtfofepmkjjeldaaGreatDoorRun3T
namespace Go.Proofs.YtfofepmkjjeldaaGreatDoor
open Go.RowKit

theorem topin_yes (k lo hi : Int) (w : World) (h : lo ≤ k ∧ k ≤ hi) :
    Calls Tryz.prog 24 #[.int .i64 k, .int .i64 lo, .int .i64 hi] w fun e w' => e = .returned (.bool true) ∧ w = w' := by
  have q1 : decide (lo ≤ k) = true := decide_eq_true h.1
  have q2 : decide (k ≤ hi) = true := decide_eq_true h.2
  go_enter Tryz.func24, Tryz.ntmps24
  go_wp2_with fail
  go_ret
  exact ⟨rfl, rfl⟩
theorem topin_no (k lo hi : Int) (w : World) (h : ¬ (lo ≤ k ∧ k ≤ hi)) :
    Calls Tryz.prog 24 #[.int .i64 k, .int .i64 lo, .int .i64 hi] w fun e w' => e = .returned (.bool false) ∧ w = w' := by
  by_cases h1 : lo ≤ k
  · have q1 : decide (lo ≤ k) = true := decide_eq_true h1
    have q2 : decide (k ≤ hi) = false := decide_eq_false (fun h2 => h ⟨h1, h2⟩)
    go_enter Tryz.func24, Tryz.ntmps24
    go_wp2_with fail
    go_ret
    exact ⟨rfl, rfl⟩
  · have q1 : decide (lo ≤ k) = false := decide_eq_false h1
    go_enter Tryz.func24, Tryz.ntmps24
    go_wp2_with fail
    go_ret
    exact ⟨rfl, rfl⟩

theorem desk_all {T : List UInt8} (hT : Whole T) {p : Nat} (hp : p ≤ 7) :
    ∃ was : List UInt8, 1 ≤ was.length ∧
      (bookOf T).ansT (req (lRead p)) = was ∧ (bookOf (T ++ (lCrash ++ [10]))).ansT (req (lRead p)) = was ∧ (bookOf (T ++ (lCrash ++ [10]))).ansT (req lWaits) = [48] := by
  have hR := bookOf_reach T
  rw [bookOf_more hT (l := lCrash) (by decide), req_read (by omega), req_waits, req_crash, crash_same hR]
  refine ⟨_, ?_, rfl, rfl, ?_⟩
  · show 1 ≤ (if 8 ≤ p then _ else _ : List UInt8).length
    rw [if_neg (by omega)]
    exact dec_len_pos _
  · show Lib.decDigits 0 = _
    rw [Lib.decDigits_one (by decide)]
    rfl

theorem lit7 : (⟨#[99, 114, 97, 115, 104, 32, 57, 57, 57, 57, 57, 57, 57, 10]⟩ : ByteArray).size = 14 := rfl
theorem lit8 : (⟨#[99, 114, 97, 115, 104, 32, 57, 57, 57, 57, 57, 57, 57, 10, 119, 97, 105, 116, 115, 10]⟩ : ByteArray).size = 20 := rfl

set_option maxRecDepth 100000 in
set_option maxHeartbeats 8000000 in
theorem topdesk_walk (a0 : ByteArray) (p0 : Int) (W : World) (h0 : a0.size ≤ 140737488351232) (_ : -9223372036854775808 ≤ p0 ∧ p0 ≤ 9223372036854775807) (hH : Handled W) (hE : Env W.heap.size W) :
    Calls Tryz.prog 9 #[.string a0, .int .i64 p0] W fun e w' => e = .returned (.bool true) ∧ Below W.heap.size W w' := by
  have HE := Lib.hid hE
  have HH : Hid (Hand W.heap.size W) := Lib.hid (fun w' hb => hH.below hb)
  clear hE hH
  go_enter Tryz.func9, Tryz.ntmps9
  go_wp2_with fail
  refine (run_text ⟨#[119, 97, 105, 116, 115]⟩ W W.heap.size (Nat.le_refl _) HE.out HH.out (by decide)).mono ?_
  rintro _ w1 ⟨rfl, hb1⟩
  rw [show (⟨(runT (⟨#[119, 97, 105, 116, 115]⟩ : ByteArray).data.toList).toArray⟩ : ByteArray) = ⟨#[48, 10]⟩ from congrArg (fun l : List UInt8 => (⟨l.toArray⟩ : ByteArray)) fact_waits]
  have HB1 := Lib.hid hb1
  clear hb1
  by_cases hbig : 2900 < a0.size
  · have q1 : decide ((2900 : Int) < (a0.size : Int)) = true := decide_eq_true (by omega)
    go_wp2_with fail
    go_ret
    exact ⟨rfl, HB1.out⟩
  have q1 : decide ((2900 : Int) < (a0.size : Int)) = false := decide_eq_false (by omega)
  have hend : (∃ k, a0.size = k + 1 ∧ ∃ hk : k < a0.size, a0[k] ≠ 10) ∨ (Whole a0.data.toList ∧ a0.size = 0) ∨ (Whole a0.data.toList ∧ ∃ k, a0.size = k + 1 ∧ ∃ hk : k < a0.size, a0[k] = 10) := by
    by_cases hz : a0.size = 0
    · exact .inr (.inl ⟨whole_text (.inl hz), hz⟩)
    · by_cases h10 : a0[a0.size - 1]'(by omega) = 10
      · exact .inr (.inr ⟨whole_text (.inr ⟨by omega, h10⟩), a0.size - 1, by omega, by omega, h10⟩)
      · exact .inl ⟨a0.size - 1, by omega, by omega, h10⟩
  rcases hend with ⟨k, hk1, hk, h10⟩ | ⟨hwh, hz⟩ | ⟨hwh, k, hk1, hk, h10⟩
  · have q2 : decide ((0 : Int) < (a0.size : Int)) = true := decide_eq_true (by omega)
    have s1 : IntKind.i64.wrap ((a0.size : Int) - 1) = (k : Int) := by rw [IntWalk.i64_in _ (by omega)]; omega
    have q3 : (((a0[k]).toNat : Int) != 10) = true := bne_iff_ne.2 (fun e => h10 (UInt8.toNat_inj.1 (by have h : (10 : UInt8).toNat = 10 := rfl; rw [h]; omega)))
    have HK1 := Lib.hid hk1
    clear hk1 h10
    go_wp2_with fail
    go_ret
    exact ⟨rfl, HB1.out⟩
  · have q2 : decide ((0 : Int) < (a0.size : Int)) = false := decide_eq_false (by omega)
    have HWH := Lib.hid hwh
    have HSZ : Hid (a0.size ≤ 2900) := Lib.hid (by omega)
    have q2n : ¬ (0 < a0.size) := by omega
    clear hz hwh hbig
    go_wp2_with fail
    by_cases hp : 0 ≤ p0 ∧ p0 ≤ 7
    rotate_left
    · refine (topin_no p0 0 7 w1 hp).mono ?_
      rintro _ w ⟨rfl, rfl⟩
      go_wp2_with fail
      go_ret
      exact ⟨rfl, HB1.out⟩
    refine (topin_yes p0 0 7 w1 hp).mono ?_
    rintro _ w ⟨rfl, rfl⟩
    obtain ⟨p, rfl⟩ : ∃ p : Nat, p0 = p := ⟨p0.toNat, by omega⟩
    have hp7 : p ≤ 7 := by omega
    obtain ⟨was, hwas, k1, k2, k3⟩ := desk_all HWH.out hp7
    have K1 := Lib.hid k1
    have K2 := Lib.hid k2
    have K3 := Lib.hid k3
    clear hp k1 k2 k3
    obtain ⟨dp, hdp⟩ := named (Lib.decDigits p)
    have hdps : dp.size ≤ 4 := by rw [hdp, str_size]; exact dec_len4 (by omega)
    have HDP : Hid (dp.data.toList = Lib.decDigits p) := Lib.hid (by rw [hdp])
    have HGP := Lib.hid (fun (w : World) => digits_walk p (by omega) w)
    rw [← hdp] at HGP
    clear hdp
    go_wp2_with fail
    refine (HGP.out w1).mono ?_
    rintro _ w ⟨rfl, rfl⟩
    go_wp2_with fail
    refine (lastRun _ w1 W.heap.size HB1.out.size (HE.out.on HB1.out) (HH.out.on HB1.out) HWH.out (lRead_feed p) (by simp only [data_app, HDP.out]; simp [lRead]) (by have := HSZ.out; simp only [ByteArray.size_append, lit1, lit3]; omega)).mono ?_
    rintro _ w2 ⟨⟨y1, rfl, hy1, pp1, hpp1, hyd1⟩, hb2⟩
    rw [K1.out] at hyd1
    have hfw : (10 : UInt8) ∉ was := by rw [← K1.out]; exact ansT_feed _ _
    have HL := Lib.hid (tlast_walk y1 w2 hpp1 hfw hyd1 hy1)
    have HB2 := Lib.hid (HB1.out.trans (hb2.mono HB1.out.size))
    obtain ⟨xw, hxw⟩ := named (was ++ [10])
    have hxws : 1 < xw.size := by rw [hxw, str_size]; simp; omega
    rw [← hxw] at HL
    have HXW := Lib.hid hxw
    have HFW := Lib.hid hfw
    clear hb2 hyd1 hy1 hpp1 hfw hxw
    go_wp2_with fail
    refine HL.out.mono ?_
    rintro _ w ⟨rfl, rfl⟩
    clear HL
    go_wp2_with fail
    refine (lastRun _ w2 W.heap.size HB2.out.size (HE.out.on HB2.out) (HH.out.on HB2.out) (HWH.out.line lCrash) (lRead_feed p) (by simp only [data_app, HDP.out]; simp [lRead, lCrash]) (by have := HSZ.out; simp only [ByteArray.size_append, lit1, lit3, lit7]; omega)).mono ?_
    rintro _ w3 ⟨⟨y2, rfl, hy2, pp2, hpp2, hyd2⟩, hb3⟩
    rw [K2.out] at hyd2
    have HL := Lib.hid (tlast_walk y2 w3 hpp2 HFW.out hyd2 hy2)
    have HB3 := Lib.hid (HB2.out.trans (hb3.mono HB2.out.size))
    rw [← HXW.out] at HL
    clear hb3 hyd2 hy2 hpp2
    go_wp2_with fail
    refine HL.out.mono ?_
    rintro _ w ⟨rfl, rfl⟩
    clear HL
    go_wp2_with fail
    refine (lastRun _ w3 W.heap.size HB3.out.size (HE.out.on HB3.out) (HH.out.on HB3.out) (HWH.out.line lCrash) (l := lWaits) (by decide) (by simp only [data_app]; simp [lCrash, lWaits]) (by have := HSZ.out; simp only [ByteArray.size_append, lit8]; omega)).mono ?_
    rintro _ w4 ⟨⟨y3, rfl, hy3, pp3, hpp3, hyd3⟩, hb4⟩
    rw [K3.out] at hyd3
    have HL : Hid (Calls Tryz.prog 25 #[.string y3] w4 fun e w' => e = .returned (.string ⟨#[48, 10]⟩) ∧ w4 = w') := Lib.hid (tlast_walk y3 w4 hpp3 (by decide) hyd3 hy3)
    have HB4 := Lib.hid (HB3.out.trans (hb4.mono HB3.out.size))
    clear hb4 hyd3 hy3 hpp3
    go_wp2_with fail
    refine HL.out.mono ?_
    rintro _ w ⟨rfl, rfl⟩
    clear HL
    have z1 : decide ((1 : Int) < (xw.size : Int)) = true := decide_eq_true (by omega)
    go_wp2_with fail
    go_ret
    exact ⟨rfl, HB4.out⟩
  · have q2 : decide ((0 : Int) < (a0.size : Int)) = true := decide_eq_true (by omega)
    have s1 : IntKind.i64.wrap ((a0.size : Int) - 1) = (k : Int) := by rw [IntWalk.i64_in _ (by omega)]; omega
    have q3 : (((a0[k]).toNat : Int) != 10) = false := by rw [h10]; rfl
    have HWH := Lib.hid hwh
    have HSZ : Hid (a0.size ≤ 2900) := Lib.hid (by omega)
    clear hk1 h10 hwh hbig
    go_wp2_with fail
    by_cases hp : 0 ≤ p0 ∧ p0 ≤ 7
    rotate_left
    · refine (topin_no p0 0 7 w1 hp).mono ?_
      rintro _ w ⟨rfl, rfl⟩
      go_wp2_with fail
      go_ret
      exact ⟨rfl, HB1.out⟩
    refine (topin_yes p0 0 7 w1 hp).mono ?_
    rintro _ w ⟨rfl, rfl⟩
    obtain ⟨p, rfl⟩ : ∃ p : Nat, p0 = p := ⟨p0.toNat, by omega⟩
    have hp7 : p ≤ 7 := by omega
    obtain ⟨was, hwas, k1, k2, k3⟩ := desk_all HWH.out hp7
    have K1 := Lib.hid k1
    have K2 := Lib.hid k2
    have K3 := Lib.hid k3
    clear hp k1 k2 k3
    obtain ⟨dp, hdp⟩ := named (Lib.decDigits p)
    have hdps : dp.size ≤ 4 := by rw [hdp, str_size]; exact dec_len4 (by omega)
    have HDP : Hid (dp.data.toList = Lib.decDigits p) := Lib.hid (by rw [hdp])
    have HGP := Lib.hid (fun (w : World) => digits_walk p (by omega) w)
    rw [← hdp] at HGP
    clear hdp
    go_wp2_with fail
    refine (HGP.out w1).mono ?_
    rintro _ w ⟨rfl, rfl⟩
    go_wp2_with fail
    refine (lastRun _ w1 W.heap.size HB1.out.size (HE.out.on HB1.out) (HH.out.on HB1.out) HWH.out (lRead_feed p) (by simp only [data_app, HDP.out]; simp [lRead]) (by have := HSZ.out; simp only [ByteArray.size_append, lit1, lit3]; omega)).mono ?_
    rintro _ w2 ⟨⟨y1, rfl, hy1, pp1, hpp1, hyd1⟩, hb2⟩
    rw [K1.out] at hyd1
    have hfw : (10 : UInt8) ∉ was := by rw [← K1.out]; exact ansT_feed _ _
    have HL := Lib.hid (tlast_walk y1 w2 hpp1 hfw hyd1 hy1)
    have HB2 := Lib.hid (HB1.out.trans (hb2.mono HB1.out.size))
    obtain ⟨xw, hxw⟩ := named (was ++ [10])
    have hxws : 1 < xw.size := by rw [hxw, str_size]; simp; omega
    rw [← hxw] at HL
    have HXW := Lib.hid hxw
    have HFW := Lib.hid hfw
    clear hb2 hyd1 hy1 hpp1 hfw hxw
    go_wp2_with fail
    refine HL.out.mono ?_
    rintro _ w ⟨rfl, rfl⟩
    clear HL
    go_wp2_with fail
    refine (lastRun _ w2 W.heap.size HB2.out.size (HE.out.on HB2.out) (HH.out.on HB2.out) (HWH.out.line lCrash) (lRead_feed p) (by simp only [data_app, HDP.out]; simp [lRead, lCrash]) (by have := HSZ.out; simp only [ByteArray.size_append, lit1, lit3, lit7]; omega)).mono ?_
    rintro _ w3 ⟨⟨y2, rfl, hy2, pp2, hpp2, hyd2⟩, hb3⟩
    rw [K2.out] at hyd2
    have HL := Lib.hid (tlast_walk y2 w3 hpp2 HFW.out hyd2 hy2)
    have HB3 := Lib.hid (HB2.out.trans (hb3.mono HB2.out.size))
    rw [← HXW.out] at HL
    clear hb3 hyd2 hy2 hpp2
    go_wp2_with fail
    refine HL.out.mono ?_
    rintro _ w ⟨rfl, rfl⟩
    clear HL
    go_wp2_with fail
    refine (lastRun _ w3 W.heap.size HB3.out.size (HE.out.on HB3.out) (HH.out.on HB3.out) (HWH.out.line lCrash) (l := lWaits) (by decide) (by simp only [data_app]; simp [lCrash, lWaits]) (by have := HSZ.out; simp only [ByteArray.size_append, lit8]; omega)).mono ?_
    rintro _ w4 ⟨⟨y3, rfl, hy3, pp3, hpp3, hyd3⟩, hb4⟩
    rw [K3.out] at hyd3
    have HL : Hid (Calls Tryz.prog 25 #[.string y3] w4 fun e w' => e = .returned (.string ⟨#[48, 10]⟩) ∧ w4 = w') := Lib.hid (tlast_walk y3 w4 hpp3 (by decide) hyd3 hy3)
    have HB4 := Lib.hid (HB3.out.trans (hb4.mono HB3.out.size))
    clear hb4 hyd3 hy3 hpp3
    go_wp2_with fail
    refine HL.out.mono ?_
    rintro _ w ⟨rfl, rfl⟩
    clear HL
    have z1 : decide ((1 : Int) < (xw.size : Int)) = true := decide_eq_true (by omega)
    go_wp2_with fail
    go_ret
    exact ⟨rfl, HB4.out⟩

end Go.Proofs.YtfofepmkjjeldaaGreatDoor
