/- The walk of DeskKeeps: the session. -/
import Derived.Test.YtfofepmkjjeldaaGreatDoorDKeeps
namespace Go.Proofs.YtfofepmkjjeldaaGreatDoor
open Go.RowKit

theorem data_app (a b : ByteArray) : (a ++ b).data.toList = a.data.toList ++ b.data.toList := by rw [ByteArray.data_append, Array.toList_append]

theorem read_same {b : Bk} {p v : Nat} : (b.write p v).ansT (.read p) = b.ansT (.read p) := by
  show (if 8 ≤ p then tell 1 else Lib.decDigits ((b.write p v).B.getD p 0)) = (if 8 ≤ p then tell 1 else Lib.decDigits (b.B.getD p 0))
  rw [write_B]
theorem writeE_in {b : Bk} {p v : Nat} (hp : p ≤ 7) (hv : v ≤ 1000) : b.writeE p v = 0 ∨ b.writeE p v = 4 := by
  unfold Bk.writeE
  rw [if_pos ⟨by omega, by omega, by omega, by omega⟩]
  split
  · exact .inr rfl
  · exact .inl rfl
theorem doneE_in (b : Bk) : b.doneE = 0 ∨ b.doneE = 4 := by
  unfold Bk.doneE
  split
  · exact .inr rfl
  · exact .inl rfl

theorem lit1 : (⟨#[10]⟩ : ByteArray).size = 1 := rfl
theorem lit2 : (⟨#[32]⟩ : ByteArray).size = 1 := rfl
theorem lit3 : (⟨#[114, 101, 97, 100, 32]⟩ : ByteArray).size = 5 := rfl
theorem lit4 : (⟨#[119, 114, 105, 116, 101, 32]⟩ : ByteArray).size = 6 := rfl
theorem lit5 : (⟨#[100, 111, 10]⟩ : ByteArray).size = 3 := rfl
theorem lit6 : (⟨#[100, 111, 10, 99, 114, 97, 115, 104, 32, 57, 57, 57, 57, 57, 57, 57, 10]⟩ : ByteArray).size = 17 := rfl

/-- the answers of the law, in one: what was read ahead, what is told of the write, read behind it, told of the group, read behind a crash -/
theorem keeps_all {T : List UInt8} (hT : Whole T) {p v : Nat} (hp : p ≤ 7) (hv : v ≤ 1000) :
    ∃ was a c d : List UInt8,
      (bookOf T).ansT (req (lRead p)) = was ∧ (bookOf T).ansT (req (lWrite p v)) = a ∧ (bookOf (T ++ (lWrite p v ++ [10]))).ansT (req (lRead p)) = was ∧
      (bookOf (T ++ (lWrite p v ++ [10]))).ansT (req lDo) = c ∧ (bookOf (((T ++ (lWrite p v ++ [10])) ++ (lDo ++ [10])) ++ (lCrash ++ [10]))).ansT (req (lRead p)) = d ∧
      ((a = [69, 114, 114, 70, 117, 108, 108]) ∨ (a = [111, 107] ∧ c = [69, 114, 114, 70, 117, 108, 108]) ∨ (a = [111, 107] ∧ c ≠ [69, 114, 114, 70, 117, 108, 108] ∧ d = Lib.decDigits v)) := by
  have hw1 : Whole (T ++ (lWrite p v ++ [10])) := hT.line _
  have hw2 : Whole ((T ++ (lWrite p v ++ [10])) ++ (lDo ++ [10])) := hw1.line _
  have hR := bookOf_reach T
  rw [bookOf_more hw2 (l := lCrash) (by decide), bookOf_more hw1 (l := lDo) (by decide), bookOf_more hT (lWrite_feed p v), req_write (by omega) (by omega), req_read (by omega), req_do, req_crash]
  refine ⟨_, _, _, _, rfl, rfl, read_same, rfl, rfl, ?_⟩
  have h1 : (bookOf T).ansT (.write p v) = tell ((bookOf T).writeE p v) := rfl
  rw [h1]
  rcases writeE_in (b := bookOf T) hp hv with hE | hE
  · rw [hE]
    right
    have h2 : ((bookOf T).ansB (.write p v)) = (bookOf T).write p v := rfl
    rw [h2]
    rcases doneE_in ((bookOf T).write p v) with hD | hD
    · right
      refine ⟨rfl, ?_, ?_⟩
      · show (if ((bookOf T).write p v).doneE = 0 then _ else _ : List UInt8) ≠ _
        rw [if_pos hD]
        intro e
        have := congrArg List.head? e
        simp at this
      · show (if 8 ≤ p then _ else _ : List UInt8) = _
        rw [if_neg (by omega)]
        exact congrArg Lib.decDigits (keeps hR (by omega) hE hD)
    · left
      refine ⟨rfl, ?_⟩
      show (if ((bookOf T).write p v).doneE = 0 then _ else _ : List UInt8) = _
      rw [if_neg (by omega), hD]
      rfl
  · rw [hE]
    exact .inl rfl

set_option maxRecDepth 100000 in
set_option maxHeartbeats 8000000 in
theorem dkeeps_walk (a0 : ByteArray) (p0 v0 : Int) (W : World) (h0 : a0.size ≤ 140737488351232) (_ : -9223372036854775808 ≤ p0 ∧ p0 ≤ 9223372036854775807) (_ : -9223372036854775808 ≤ v0 ∧ v0 ≤ 9223372036854775807) (hH : Handled W) (hE : Env W.heap.size W) :
    Calls Tryz.prog 8 #[.string a0, .int .i64 p0, .int .i64 v0] W fun e w' => e = .returned (.bool true) ∧ Below W.heap.size W w' := by
  have HE := Lib.hid hE
  have HH : Hid (Hand W.heap.size W) := Lib.hid (fun w' hb => hH.below hb)
  clear hE hH
  go_enter Tryz.func8, Tryz.ntmps8
  go_wp2_with fail
  refine (run_text ⟨#[119, 97, 105, 116, 115]⟩ W W.heap.size (Nat.le_refl _) HE.out HH.out (by decide)).mono ?_
  rintro _ w1 ⟨rfl, hb1⟩
  rw [show (⟨(runT (⟨#[119, 97, 105, 116, 115]⟩ : ByteArray).data.toList).toArray⟩ : ByteArray) = ⟨#[48, 10]⟩ from congrArg (fun l : List UInt8 => (⟨l.toArray⟩ : ByteArray)) fact_waits]
  have HB1 := Lib.hid hb1
  clear hb1
  by_cases hbig : 2900 < a0.size
  · have q1 : decide ((2900 : Int) < (a0.size : Int)) = true := decide_eq_true (by omega)
    go_wp2_with fail
    go_ret
    exact ⟨rfl, HB1.out⟩
  have q1 : decide ((2900 : Int) < (a0.size : Int)) = false := decide_eq_false (by omega)
  have hend : (∃ k, a0.size = k + 1 ∧ ∃ hk : k < a0.size, a0[k] ≠ 10) ∨ (Whole a0.data.toList ∧ a0.size = 0) ∨ (Whole a0.data.toList ∧ ∃ k, a0.size = k + 1 ∧ ∃ hk : k < a0.size, a0[k] = 10) := by
    by_cases hz : a0.size = 0
    · exact .inr (.inl ⟨whole_text (.inl hz), hz⟩)
    · by_cases h10 : a0[a0.size - 1]'(by omega) = 10
      · exact .inr (.inr ⟨whole_text (.inr ⟨by omega, h10⟩), a0.size - 1, by omega, by omega, h10⟩)
      · exact .inl ⟨a0.size - 1, by omega, by omega, h10⟩
  rcases hend with ⟨k, hk1, hk, h10⟩ | ⟨hwh, hz⟩ | ⟨hwh, k, hk1, hk, h10⟩
  · have q2 : decide ((0 : Int) < (a0.size : Int)) = true := decide_eq_true (by omega)
    have s1 : IntKind.i64.wrap ((a0.size : Int) - 1) = (k : Int) := by rw [IntWalk.i64_in _ (by omega)]; omega
    have q3 : (((a0[k]).toNat : Int) != 10) = true := bne_iff_ne.2 (fun e => h10 (UInt8.toNat_inj.1 (by have h : (10 : UInt8).toNat = 10 := rfl; rw [h]; omega)))
    have HK1 := Lib.hid hk1
    clear hk1 h10
    go_wp2_with fail
    go_ret
    exact ⟨rfl, HB1.out⟩
  · have q2 : decide ((0 : Int) < (a0.size : Int)) = false := decide_eq_false (by omega)
    have HWH := Lib.hid hwh
    have HSZ : Hid (a0.size ≤ 2900) := Lib.hid (by omega)
    have q2n : ¬ (0 < a0.size) := by omega
    clear hz hwh hbig
    go_wp2_with fail
    by_cases hp : 0 ≤ p0 ∧ p0 ≤ 7
    rotate_left
    · refine (lawin_no p0 0 7 w1 hp).mono ?_
      rintro _ w ⟨rfl, rfl⟩
      go_wp2_with fail
      go_ret
      exact ⟨rfl, HB1.out⟩
    refine (lawin_yes p0 0 7 w1 hp).mono ?_
    rintro _ w ⟨rfl, rfl⟩
    go_wp2_with fail
    by_cases hv : 0 ≤ v0 ∧ v0 ≤ 1000
    rotate_left
    · refine (lawin_no v0 0 1000 w1 hv).mono ?_
      rintro _ w ⟨rfl, rfl⟩
      go_wp2_with fail
      go_ret
      exact ⟨rfl, HB1.out⟩
    refine (lawin_yes v0 0 1000 w1 hv).mono ?_
    rintro _ w ⟨rfl, rfl⟩
    obtain ⟨p, rfl⟩ : ∃ p : Nat, p0 = p := ⟨p0.toNat, by omega⟩
    obtain ⟨v, rfl⟩ : ∃ v : Nat, v0 = v := ⟨v0.toNat, by omega⟩
    have hp7 : p ≤ 7 := by omega
    have hv1000 : v ≤ 1000 := by omega
    obtain ⟨was, a, c, d, k1, k2, k3, k4, k5, kcase⟩ := keeps_all HWH.out hp7 hv1000
    have K1 := Lib.hid k1
    have K2 := Lib.hid k2
    have K3 := Lib.hid k3
    have K4 := Lib.hid k4
    have K5 := Lib.hid k5
    have KC := Lib.hid kcase
    clear hp hv k1 k2 k3 k4 k5 kcase
    obtain ⟨dp, hdp⟩ := named (Lib.decDigits p)
    obtain ⟨dv, hdv⟩ := named (Lib.decDigits v)
    have hdps : dp.size ≤ 4 := by rw [hdp, str_size]; exact dec_len4 (by omega)
    have hdvs : dv.size ≤ 4 := by rw [hdv, str_size]; exact dec_len4 (by omega)
    have HDP : Hid (dp.data.toList = Lib.decDigits p) := Lib.hid (by rw [hdp])
    have HDV : Hid (dv.data.toList = Lib.decDigits v) := Lib.hid (by rw [hdv])
    have HGP := Lib.hid (fun (w : World) => digits_walk p (by omega) w)
    have HGV := Lib.hid (fun (w : World) => digits_walk v (by omega) w)
    rw [← hdp] at HGP
    rw [← hdv] at HGV
    have HDVE := Lib.hid hdv
    clear hdp hdv
    go_wp2_with fail
    refine (HGP.out w1).mono ?_
    rintro _ w ⟨rfl, rfl⟩
    go_wp2_with fail
    refine (HGV.out w1).mono ?_
    rintro _ w ⟨rfl, rfl⟩
    go_wp2_with fail
    refine (HGP.out w1).mono ?_
    rintro _ w ⟨rfl, rfl⟩
    go_wp2_with fail
    refine (lastRun _ w1 W.heap.size HB1.out.size (HE.out.on HB1.out) (HH.out.on HB1.out) HWH.out (lRead_feed p) (by rw [data_app, data_app, data_app, HDP.out]; simp [lRead]) (by have := HSZ.out; simp only [ByteArray.size_append, lit1, lit2, lit3, lit4, lit5, lit6]; omega)).mono ?_
    rintro _ w2 ⟨⟨y1, rfl, hy1, pp1, hpp1, hyd1⟩, hb2⟩
    rw [K1.out] at hyd1
    have hfw : (10 : UInt8) ∉ was := by rw [← K1.out]; exact ansT_feed _ _
    have HL := Lib.hid (last_walk y1 w2 hpp1 hfw hyd1 hy1)
    have HB2 := Lib.hid (HB1.out.trans (hb2.mono HB1.out.size))
    obtain ⟨xw, hxw⟩ := named (was ++ [10])
    rw [← hxw] at HL
    have HXW := Lib.hid hxw
    clear hxw
    clear hb2 hyd1 hy1 hpp1 hfw
    go_wp2_with fail
    refine HL.out.mono ?_
    rintro _ w ⟨rfl, rfl⟩
    clear HL
    go_wp2_with fail
    refine (lastRun _ w2 W.heap.size HB2.out.size (HE.out.on HB2.out) (HH.out.on HB2.out) HWH.out (lWrite_feed p v) (by rw [data_app, data_app, data_app, data_app, data_app, HDP.out, HDV.out]; simp [lWrite]) (by have := HSZ.out; simp only [ByteArray.size_append, lit1, lit2, lit3, lit4, lit5, lit6]; omega)).mono ?_
    rintro _ w3 ⟨⟨y2, rfl, hy2, pp2, hpp2, hyd2⟩, hb3⟩
    rw [K2.out] at hyd2
    have hfw : (10 : UInt8) ∉ a := by rw [← K2.out]; exact ansT_feed _ _
    have HL := Lib.hid (last_walk y2 w3 hpp2 hfw hyd2 hy2)
    have HB3 := Lib.hid (HB2.out.trans (hb3.mono HB2.out.size))
    obtain ⟨xa, hxa⟩ := named (a ++ [10])
    rw [← hxa] at HL
    have HXA := Lib.hid hxa
    clear hxa
    clear hb3 hyd2 hy2 hpp2 hfw
    go_wp2_with fail
    refine HL.out.mono ?_
    rintro _ w ⟨rfl, rfl⟩
    clear HL
    go_wp2_with fail
    refine (lastRun _ w3 W.heap.size HB3.out.size (HE.out.on HB3.out) (HH.out.on HB3.out) (HWH.out.line (lWrite p v)) (lRead_feed p) (by simp only [data_app, HDP.out, HDV.out]; simp [lWrite, lRead]) (by have := HSZ.out; simp only [ByteArray.size_append, lit1, lit2, lit3, lit4, lit5, lit6]; omega)).mono ?_
    rintro _ w4 ⟨⟨y3, rfl, hy3, pp3, hpp3, hyd3⟩, hb4⟩
    rw [K3.out] at hyd3
    have hfw : (10 : UInt8) ∉ was := by rw [← K1.out]; exact ansT_feed _ _
    have HL := Lib.hid (last_walk y3 w4 hpp3 hfw hyd3 hy3)
    have HB4 := Lib.hid (HB3.out.trans (hb4.mono HB3.out.size))
    rw [← HXW.out] at HL
    clear hb4 hyd3 hy3 hpp3 hfw
    go_wp2_with fail
    refine HL.out.mono ?_
    rintro _ w ⟨rfl, rfl⟩
    clear HL
    go_wp2_with fail
    refine (lastRun _ w4 W.heap.size HB4.out.size (HE.out.on HB4.out) (HH.out.on HB4.out) (HWH.out.line (lWrite p v)) (l := lDo) (by decide) (by simp only [data_app, HDP.out, HDV.out]; simp [lWrite, lDo]) (by have := HSZ.out; simp only [ByteArray.size_append, lit1, lit2, lit3, lit4, lit5, lit6]; omega)).mono ?_
    rintro _ w5 ⟨⟨y4, rfl, hy4, pp4, hpp4, hyd4⟩, hb5⟩
    rw [K4.out] at hyd4
    have hfw : (10 : UInt8) ∉ c := by rw [← K4.out]; exact ansT_feed _ _
    have HL := Lib.hid (last_walk y4 w5 hpp4 hfw hyd4 hy4)
    have HB5 := Lib.hid (HB4.out.trans (hb5.mono HB4.out.size))
    obtain ⟨xc, hxc⟩ := named (c ++ [10])
    rw [← hxc] at HL
    have HXC := Lib.hid hxc
    clear hxc
    clear hb5 hyd4 hy4 hpp4 hfw
    go_wp2_with fail
    refine HL.out.mono ?_
    rintro _ w ⟨rfl, rfl⟩
    clear HL
    go_wp2_with fail
    refine (lastRun _ w5 W.heap.size HB5.out.size (HE.out.on HB5.out) (HH.out.on HB5.out) (((HWH.out.line (lWrite p v)).line lDo).line lCrash) (lRead_feed p) (by simp only [data_app, HDP.out, HDV.out]; simp [lWrite, lRead, lDo, lCrash]) (by have := HSZ.out; simp only [ByteArray.size_append, lit1, lit2, lit3, lit4, lit5, lit6]; omega)).mono ?_
    rintro _ w6 ⟨⟨y5, rfl, hy5, pp5, hpp5, hyd5⟩, hb6⟩
    rw [K5.out] at hyd5
    have hfw : (10 : UInt8) ∉ d := by rw [← K5.out]; exact ansT_feed _ _
    have HL := Lib.hid (last_walk y5 w6 hpp5 hfw hyd5 hy5)
    have HB6 := Lib.hid (HB5.out.trans (hb6.mono HB5.out.size))
    obtain ⟨xd, hxd⟩ := named (d ++ [10])
    rw [← hxd] at HL
    have HXD := Lib.hid hxd
    clear hxd
    clear hb6 hyd5 hy5 hpp5 hfw
    go_wp2_with fail
    refine HL.out.mono ?_
    rintro _ w ⟨rfl, rfl⟩
    clear HL
    have hcase : (xa = ⟨#[69, 114, 114, 70, 117, 108, 108, 10]⟩) ∨ (xa = ⟨#[111, 107, 10]⟩ ∧ xc = ⟨#[69, 114, 114, 70, 117, 108, 108, 10]⟩) ∨ (xa = ⟨#[111, 107, 10]⟩ ∧ (xc.toList == [69, 114, 114, 70, 117, 108, 108, 10]) = false ∧ xd = dv ++ ⟨#[10]⟩) := by
      rcases KC.out with h | ⟨h1, h2⟩ | ⟨h1, h2, h3⟩
      · exact .inl (by rw [HXA.out, h]; rfl)
      · exact .inr (.inl ⟨by rw [HXA.out, h1]; rfl, by rw [HXC.out, h2]; rfl⟩)
      · have e0 : (⟨#[69, 114, 114, 70, 117, 108, 108, 10]⟩ : ByteArray).toList = [69, 114, 114, 70, 117, 108, 108, 10] := by rw [ByteArray.toList_eq]
        rw [← e0]
        refine .inr (.inr ⟨by rw [HXA.out, h1]; rfl, str_beq_false (fun e => h2 ?_), by rw [HXD.out, h3, HDVE.out, ← bytes_app]⟩)
        rw [HXC.out] at e
        have e1 := congrArg (fun x : ByteArray => x.data.toList) e
        simp only at e1
        have e2 : c ++ [10] = [69, 114, 114, 70, 117, 108, 108] ++ [10] := e1
        exact List.append_cancel_right e2
    have HDVS : Hid (dv.size ≤ 4) := Lib.hid hdvs
    clear HXW HXA HXC HXD KC K1 K2 K3 K4 K5
    rcases hcase with rfl | ⟨rfl, rfl⟩ | ⟨rfl, hne, rfl⟩
    · go_wp2_with fail
      go_ret
      exact ⟨rfl, HB6.out⟩
    · go_wp2_with fail
      go_ret
      exact ⟨rfl, HB6.out⟩
    · go_wp2_with fail
      refine (HGV.out w6).mono ?_
      rintro _ w ⟨rfl, rfl⟩
      go_wp2_with fail
      go_ret
      exact ⟨rfl, HB6.out⟩
  · have q2 : decide ((0 : Int) < (a0.size : Int)) = true := decide_eq_true (by omega)
    have s1 : IntKind.i64.wrap ((a0.size : Int) - 1) = (k : Int) := by rw [IntWalk.i64_in _ (by omega)]; omega
    have q3 : (((a0[k]).toNat : Int) != 10) = false := by rw [h10]; rfl
    have HWH := Lib.hid hwh
    have HSZ : Hid (a0.size ≤ 2900) := Lib.hid (by omega)
    clear hk1 h10 hwh hbig
    go_wp2_with fail
    by_cases hp : 0 ≤ p0 ∧ p0 ≤ 7
    rotate_left
    · refine (lawin_no p0 0 7 w1 hp).mono ?_
      rintro _ w ⟨rfl, rfl⟩
      go_wp2_with fail
      go_ret
      exact ⟨rfl, HB1.out⟩
    refine (lawin_yes p0 0 7 w1 hp).mono ?_
    rintro _ w ⟨rfl, rfl⟩
    go_wp2_with fail
    by_cases hv : 0 ≤ v0 ∧ v0 ≤ 1000
    rotate_left
    · refine (lawin_no v0 0 1000 w1 hv).mono ?_
      rintro _ w ⟨rfl, rfl⟩
      go_wp2_with fail
      go_ret
      exact ⟨rfl, HB1.out⟩
    refine (lawin_yes v0 0 1000 w1 hv).mono ?_
    rintro _ w ⟨rfl, rfl⟩
    obtain ⟨p, rfl⟩ : ∃ p : Nat, p0 = p := ⟨p0.toNat, by omega⟩
    obtain ⟨v, rfl⟩ : ∃ v : Nat, v0 = v := ⟨v0.toNat, by omega⟩
    have hp7 : p ≤ 7 := by omega
    have hv1000 : v ≤ 1000 := by omega
    obtain ⟨was, a, c, d, k1, k2, k3, k4, k5, kcase⟩ := keeps_all HWH.out hp7 hv1000
    have K1 := Lib.hid k1
    have K2 := Lib.hid k2
    have K3 := Lib.hid k3
    have K4 := Lib.hid k4
    have K5 := Lib.hid k5
    have KC := Lib.hid kcase
    clear hp hv k1 k2 k3 k4 k5 kcase
    obtain ⟨dp, hdp⟩ := named (Lib.decDigits p)
    obtain ⟨dv, hdv⟩ := named (Lib.decDigits v)
    have hdps : dp.size ≤ 4 := by rw [hdp, str_size]; exact dec_len4 (by omega)
    have hdvs : dv.size ≤ 4 := by rw [hdv, str_size]; exact dec_len4 (by omega)
    have HDP : Hid (dp.data.toList = Lib.decDigits p) := Lib.hid (by rw [hdp])
    have HDV : Hid (dv.data.toList = Lib.decDigits v) := Lib.hid (by rw [hdv])
    have HGP := Lib.hid (fun (w : World) => digits_walk p (by omega) w)
    have HGV := Lib.hid (fun (w : World) => digits_walk v (by omega) w)
    rw [← hdp] at HGP
    rw [← hdv] at HGV
    have HDVE := Lib.hid hdv
    clear hdp hdv
    go_wp2_with fail
    refine (HGP.out w1).mono ?_
    rintro _ w ⟨rfl, rfl⟩
    go_wp2_with fail
    refine (HGV.out w1).mono ?_
    rintro _ w ⟨rfl, rfl⟩
    go_wp2_with fail
    refine (HGP.out w1).mono ?_
    rintro _ w ⟨rfl, rfl⟩
    go_wp2_with fail
    refine (lastRun _ w1 W.heap.size HB1.out.size (HE.out.on HB1.out) (HH.out.on HB1.out) HWH.out (lRead_feed p) (by rw [data_app, data_app, data_app, HDP.out]; simp [lRead]) (by have := HSZ.out; simp only [ByteArray.size_append, lit1, lit2, lit3, lit4, lit5, lit6]; omega)).mono ?_
    rintro _ w2 ⟨⟨y1, rfl, hy1, pp1, hpp1, hyd1⟩, hb2⟩
    rw [K1.out] at hyd1
    have hfw : (10 : UInt8) ∉ was := by rw [← K1.out]; exact ansT_feed _ _
    have HL := Lib.hid (last_walk y1 w2 hpp1 hfw hyd1 hy1)
    have HB2 := Lib.hid (HB1.out.trans (hb2.mono HB1.out.size))
    obtain ⟨xw, hxw⟩ := named (was ++ [10])
    rw [← hxw] at HL
    have HXW := Lib.hid hxw
    clear hxw
    clear hb2 hyd1 hy1 hpp1 hfw
    go_wp2_with fail
    refine HL.out.mono ?_
    rintro _ w ⟨rfl, rfl⟩
    clear HL
    go_wp2_with fail
    refine (lastRun _ w2 W.heap.size HB2.out.size (HE.out.on HB2.out) (HH.out.on HB2.out) HWH.out (lWrite_feed p v) (by rw [data_app, data_app, data_app, data_app, data_app, HDP.out, HDV.out]; simp [lWrite]) (by have := HSZ.out; simp only [ByteArray.size_append, lit1, lit2, lit3, lit4, lit5, lit6]; omega)).mono ?_
    rintro _ w3 ⟨⟨y2, rfl, hy2, pp2, hpp2, hyd2⟩, hb3⟩
    rw [K2.out] at hyd2
    have hfw : (10 : UInt8) ∉ a := by rw [← K2.out]; exact ansT_feed _ _
    have HL := Lib.hid (last_walk y2 w3 hpp2 hfw hyd2 hy2)
    have HB3 := Lib.hid (HB2.out.trans (hb3.mono HB2.out.size))
    obtain ⟨xa, hxa⟩ := named (a ++ [10])
    rw [← hxa] at HL
    have HXA := Lib.hid hxa
    clear hxa
    clear hb3 hyd2 hy2 hpp2 hfw
    go_wp2_with fail
    refine HL.out.mono ?_
    rintro _ w ⟨rfl, rfl⟩
    clear HL
    go_wp2_with fail
    refine (lastRun _ w3 W.heap.size HB3.out.size (HE.out.on HB3.out) (HH.out.on HB3.out) (HWH.out.line (lWrite p v)) (lRead_feed p) (by simp only [data_app, HDP.out, HDV.out]; simp [lWrite, lRead]) (by have := HSZ.out; simp only [ByteArray.size_append, lit1, lit2, lit3, lit4, lit5, lit6]; omega)).mono ?_
    rintro _ w4 ⟨⟨y3, rfl, hy3, pp3, hpp3, hyd3⟩, hb4⟩
    rw [K3.out] at hyd3
    have hfw : (10 : UInt8) ∉ was := by rw [← K1.out]; exact ansT_feed _ _
    have HL := Lib.hid (last_walk y3 w4 hpp3 hfw hyd3 hy3)
    have HB4 := Lib.hid (HB3.out.trans (hb4.mono HB3.out.size))
    rw [← HXW.out] at HL
    clear hb4 hyd3 hy3 hpp3 hfw
    go_wp2_with fail
    refine HL.out.mono ?_
    rintro _ w ⟨rfl, rfl⟩
    clear HL
    go_wp2_with fail
    refine (lastRun _ w4 W.heap.size HB4.out.size (HE.out.on HB4.out) (HH.out.on HB4.out) (HWH.out.line (lWrite p v)) (l := lDo) (by decide) (by simp only [data_app, HDP.out, HDV.out]; simp [lWrite, lDo]) (by have := HSZ.out; simp only [ByteArray.size_append, lit1, lit2, lit3, lit4, lit5, lit6]; omega)).mono ?_
    rintro _ w5 ⟨⟨y4, rfl, hy4, pp4, hpp4, hyd4⟩, hb5⟩
    rw [K4.out] at hyd4
    have hfw : (10 : UInt8) ∉ c := by rw [← K4.out]; exact ansT_feed _ _
    have HL := Lib.hid (last_walk y4 w5 hpp4 hfw hyd4 hy4)
    have HB5 := Lib.hid (HB4.out.trans (hb5.mono HB4.out.size))
    obtain ⟨xc, hxc⟩ := named (c ++ [10])
    rw [← hxc] at HL
    have HXC := Lib.hid hxc
    clear hxc
    clear hb5 hyd4 hy4 hpp4 hfw
    go_wp2_with fail
    refine HL.out.mono ?_
    rintro _ w ⟨rfl, rfl⟩
    clear HL
    go_wp2_with fail
    refine (lastRun _ w5 W.heap.size HB5.out.size (HE.out.on HB5.out) (HH.out.on HB5.out) (((HWH.out.line (lWrite p v)).line lDo).line lCrash) (lRead_feed p) (by simp only [data_app, HDP.out, HDV.out]; simp [lWrite, lRead, lDo, lCrash]) (by have := HSZ.out; simp only [ByteArray.size_append, lit1, lit2, lit3, lit4, lit5, lit6]; omega)).mono ?_
    rintro _ w6 ⟨⟨y5, rfl, hy5, pp5, hpp5, hyd5⟩, hb6⟩
    rw [K5.out] at hyd5
    have hfw : (10 : UInt8) ∉ d := by rw [← K5.out]; exact ansT_feed _ _
    have HL := Lib.hid (last_walk y5 w6 hpp5 hfw hyd5 hy5)
    have HB6 := Lib.hid (HB5.out.trans (hb6.mono HB5.out.size))
    obtain ⟨xd, hxd⟩ := named (d ++ [10])
    rw [← hxd] at HL
    have HXD := Lib.hid hxd
    clear hxd
    clear hb6 hyd5 hy5 hpp5 hfw
    go_wp2_with fail
    refine HL.out.mono ?_
    rintro _ w ⟨rfl, rfl⟩
    clear HL
    have hcase : (xa = ⟨#[69, 114, 114, 70, 117, 108, 108, 10]⟩) ∨ (xa = ⟨#[111, 107, 10]⟩ ∧ xc = ⟨#[69, 114, 114, 70, 117, 108, 108, 10]⟩) ∨ (xa = ⟨#[111, 107, 10]⟩ ∧ (xc.toList == [69, 114, 114, 70, 117, 108, 108, 10]) = false ∧ xd = dv ++ ⟨#[10]⟩) := by
      rcases KC.out with h | ⟨h1, h2⟩ | ⟨h1, h2, h3⟩
      · exact .inl (by rw [HXA.out, h]; rfl)
      · exact .inr (.inl ⟨by rw [HXA.out, h1]; rfl, by rw [HXC.out, h2]; rfl⟩)
      · have e0 : (⟨#[69, 114, 114, 70, 117, 108, 108, 10]⟩ : ByteArray).toList = [69, 114, 114, 70, 117, 108, 108, 10] := by rw [ByteArray.toList_eq]
        rw [← e0]
        refine .inr (.inr ⟨by rw [HXA.out, h1]; rfl, str_beq_false (fun e => h2 ?_), by rw [HXD.out, h3, HDVE.out, ← bytes_app]⟩)
        rw [HXC.out] at e
        have e1 := congrArg (fun x : ByteArray => x.data.toList) e
        simp only at e1
        have e2 : c ++ [10] = [69, 114, 114, 70, 117, 108, 108] ++ [10] := e1
        exact List.append_cancel_right e2
    have HDVS : Hid (dv.size ≤ 4) := Lib.hid hdvs
    clear HXW HXA HXC HXD KC K1 K2 K3 K4 K5
    rcases hcase with rfl | ⟨rfl, rfl⟩ | ⟨rfl, hne, rfl⟩
    · go_wp2_with fail
      go_ret
      exact ⟨rfl, HB6.out⟩
    · go_wp2_with fail
      go_ret
      exact ⟨rfl, HB6.out⟩
    · go_wp2_with fail
      refine (HGV.out w6).mono ?_
      rintro _ w ⟨rfl, rfl⟩
      go_wp2_with fail
      go_ret
      exact ⟨rfl, HB6.out⟩

end Go.Proofs.YtfofepmkjjeldaaGreatDoor
