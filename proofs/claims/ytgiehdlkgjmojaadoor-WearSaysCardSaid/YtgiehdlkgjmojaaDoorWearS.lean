/- The walk of WearSays. -/
import Derived.Test.YtgiehdlkgjmojaaDoorWearRef
import Derived.Test.YtgiehdlkgjmojaaDoorWearGap
import Derived.Test.YtgiehdlkgjmojaaDoorFills0
import Derived.Test.YtgiehdlkgjmojaaDoorTold
import Derived.Test.YtgiehdlkgjmojaaDoorInts
import Derived.Test.YtgiehdlkgjmojaaDoorReadInts
namespace Go.Proofs.YtgiehdlkgjmojaaDoor
open Go.RowKit Wear

theorem lawIn_any (a b c : Int) (w : World) :
    Calls Tryd.prog 22 #[.int .i64 a, .int .i64 b, .int .i64 c] w fun e w' => e = .returned (.bool (decide (b ≤ a ∧ a ≤ c))) ∧ w = w' := by
  by_cases h1 : b ≤ a
  · have q1 : decide (b ≤ a) = true := decide_eq_true h1
    by_cases h2 : a ≤ c
    · have q2 : decide (a ≤ c) = true := decide_eq_true h2
      go_enter Tryd.func22, Tryd.ntmps22
      go_wp2
      go_ret
      exact ⟨ret_boolW (by simp [h1, h2]), rfl⟩
    · have q2 : decide (a ≤ c) = false := decide_eq_false h2
      go_enter Tryd.func22, Tryd.ntmps22
      go_wp2
      go_ret
      exact ⟨ret_boolW (by simp), rfl⟩
  · have q1 : decide (b ≤ a) = false := decide_eq_false h1
    go_enter Tryd.func22, Tryd.ntmps22
    go_wp2
    go_ret
    exact ⟨ret_boolW (by simp), rfl⟩

set_option maxHeartbeats 1000000 in
theorem wearSays_bad (va : Value) (m c : Int) (w : World) {xs : List Int} (ha : HasInts w va xs) (hg : Handled w) (hc0 : c ≠ 0) (hc : codeOf xs = c) :
    Calls Tryd.prog 7 #[va, .int .i64 m] w fun e w' => e = .returned (.bool true) ∧ Below w.heap.size w w' := by
  have HA := Lib.hid ha
  have HG := Lib.hid hg
  have HC := Lib.hid hc
  have HC0 := Lib.hid hc0
  have q0 : (c == 0) = false := beq_eq_false_iff_ne.2 hc0
  have HK := Lib.hid (show errW (codeOf xs) = .iface 63 (.int .i64 c) from by unfold errW; rw [hc, if_neg hc0])
  clear ha hg hc hc0
  go_enter Tryd.func7, Tryd.ntmps7
  go_wp2_with fail
  refine (values_any _ xs _ HA.out).mono ?_
  rw [HC.out]
  rintro _ w1 ⟨rfl, rfl⟩
  go_wp2_with fail
  refine (check_any _ xs _ HA.out).mono ?_
  rw [HK.out]
  rintro _ w1 ⟨rfl, rfl⟩
  go_wp2_with fail
  refine (error_same c _ HG.out).mono ?_
  rintro _ w1 ⟨rfl, hb1⟩
  have HB1 := Lib.hid hb1
  have HA1 := Lib.hid (HA.out.below hb1)
  have HG1 := Lib.hid (HG.out.below hb1)
  clear hb1
  go_wp2_with fail
  refine (next_any _ xs _ HA1.out).mono ?_
  rintro _ w2 ⟨⟨-, rfl⟩ | ⟨h, -⟩, rfl⟩
  rotate_left
  · exact absurd (HC.out.symm.trans h) HC0.out
  rw [HK.out]
  go_wp2_with fail
  refine (error_same c _ HG1.out).mono ?_
  rintro _ w3 ⟨rfl, hb3⟩
  have HB3 := Lib.hid (HB1.out.trans (hb3.mono HB1.out.size))
  have HA3 := Lib.hid (HA1.out.below hb3)
  have HG3 := Lib.hid (HG1.out.below hb3)
  clear hb3
  go_wp2_with fail
  refine (gap_bad _ xs c _ HA3.out HC0.out HC.out).mono ?_
  rintro _ w4 ⟨rfl, rfl⟩
  go_wp2_with fail
  refine (error_same c _ HG3.out).mono ?_
  rintro _ w5 ⟨rfl, hb5⟩
  have HB5 := Lib.hid (HB3.out.trans (hb5.mono HB3.out.size))
  have HA5 := Lib.hid (HA3.out.below hb5)
  have HG5 := Lib.hid (HG3.out.below hb5)
  clear hb5
  go_wp2_with fail
  refine (after_bad _ xs m c _ HA5.out HC0.out (.inl HC.out)).mono ?_
  rintro _ w6 ⟨rfl, rfl⟩
  go_wp2_with fail
  refine (error_same c _ HG5.out).mono ?_
  rintro _ w7 ⟨rfl, hb7⟩
  have HB7 := Lib.hid (HB5.out.trans (hb7.mono HB5.out.size))
  clear hb7
  go_wp2_with fail
  refine (ints_any _ _ _ _ _ (HasInts.nil _) (HasInts.nil _)).mono ?_
  rintro _ w8 ⟨rfl, d, rfl⟩
  go_wp2_with fail
  go_ret
  exact ⟨rfl, below_drewN HB7.out _⟩

/-- the loop's list: what the reference holds after k uses -/
def WantRel (w wr : World) (xs : List Int) (k : Nat) (v : Value) : Prop :=
  ∃ ys, UsesN k xs ys ∧ HasInts wr v ys ∧ Below w.heap.size w wr

set_option maxHeartbeats 2000000 in
theorem wearSays_good (va : Value) (m : Int) (w : World) {xs : List Int} (ha : HasInts w va xs) (hg : Handled w) (hc : codeOf xs = 0) :
    Calls Tryd.prog 7 #[va, .int .i64 m] w fun e w' => e = .returned (.bool true) ∧ Below w.heap.size w w' := by
  have HA := Lib.hid ha
  have HG := Lib.hid hg
  obtain ⟨hx1, hx2, hx3⟩ := code_ok' hc
  have HC := Lib.hid hc
  have HX := Lib.hid hx3
  clear ha hg hc hx3
  go_enter Tryd.func7, Tryd.ntmps7
  go_wp2_with fail
  refine (values_any _ xs _ HA.out).mono ?_
  rw [HC.out]
  rintro _ w1 ⟨rfl, rfl⟩
  go_wp2_with fail
  refine (check_any _ xs _ HA.out).mono ?_
  rw [HC.out]
  rintro _ w1 ⟨rfl, rfl⟩
  simp only [errW, if_true]
  go_wp2_with fail
  refine (error_none _).mono ?_
  rintro _ w1 ⟨rfl, rfl⟩
  go_wp2_with fail
  refine (refLeast_any _ xs _ HA.out hx1).mono ?_
  rintro _ w1 ⟨⟨i, rfl, hi⟩, d, rfl⟩
  have HI := Lib.hid hi
  have hil : i < 16 := by
    obtain ⟨v, hv, -⟩ := hi
    have : i < xs.length := by
      rcases Nat.lt_or_ge i xs.length with h | h
      · exact h
      · rw [List.getElem?_eq_none h] at hv; cases hv
    omega
  have HA1 := Lib.hid (HA.out.drewN d)
  have HB1 := Lib.hid (below_drewN' w d)
  clear hi
  go_wp2_with fail
  refine (rising_any _ xs _ HA1.out (by omega)).mono ?_
  rintro _ w2 ⟨⟨v2, zs, rfl, hown2, hp, hup⟩, hb2⟩
  have HB2 := Lib.hid (HB1.out.trans (hb2.mono HB1.out.size))
  have HA2 := Lib.hid (HA1.out.below hb2)
  have HG2 := Lib.hid (HG.out.below HB2.out)
  have hz := (HasInts.of_own hown2).2
  have hzl : zs.length = xs.length := hp.length_eq
  obtain ⟨az, cz, rfl, hcz1, hcz2, hcz⟩ := hz
  obtain ⟨bz, oz, rfl, hbz, hcz⟩ := hcz (by omega)
  obtain ⟨nz, hnz⟩ : ∃ nz, zs.length = nz + 1 := ⟨zs.length - 1, by omega⟩
  obtain ⟨A, hA⟩ : ∃ A, zs[0]? = some A := ⟨_, List.getElem?_eq_getElem (by omega)⟩
  obtain ⟨Bz, hB⟩ : ∃ Bz, zs[nz]? = some Bz := ⟨_, List.getElem?_eq_getElem (by omega)⟩
  have hAc := hcz 0 A hA
  have hBc := hcz nz Bz hB
  simp only [Nat.add_zero] at hAc
  have HMIN := Lib.hid (show IsMin xs A from ⟨hp.mem_iff.1 (List.mem_of_getElem? hA), fun y hy => up_first hup hA y (hp.mem_iff.2 hy)⟩)
  have HMAX := Lib.hid (show IsMax xs Bz from ⟨hp.mem_iff.1 (List.mem_of_getElem? hB), fun y hy => up_last hup (by rw [hnz]; exact hB) y (hp.mem_iff.2 hy)⟩)
  have hA1 := (HX.out A HMIN.out.1).1
  have hA2 := (HX.out A HMIN.out.1).2
  have hB1 := (HX.out Bz HMAX.out.1).1
  have hB2 := (HX.out Bz HMAX.out.1).2
  rw [hnz]
  have hnz16 : nz + 1 ≤ 16 := by omega
  clear hcz hA hB hp hup hown2 hb2 hnz hcz1 hcz2 hzl
  have q2 : IntKind.i64.wrap (nz : Int) = nz := IntWalk.i64_in _ (by omega)
  have q3 : IntKind.i64.wrap (Bz - A) = Bz - A := IntWalk.i64_in _ (by omega)
  go_wp2_with fail
  go_quiet (fail)
  clear q2 q3 hAc hBc
  obtain ⟨w3, hw3⟩ : ∃ w3, w3 = w2.drewN nq := ⟨_, rfl⟩
  rw [← hw3]
  have HB3 := Lib.hid (show Below w.heap.size w w3 from hw3 ▸ below_drewN HB2.out _)
  have HA3 := Lib.hid (show HasInts w3 va xs from hw3 ▸ HA2.out.drewN _)
  have HG3 := Lib.hid (HG.out.below HB3.out)
  clear hw3
  go_wp2_with fail
  refine (next_any _ xs _ HA3.out).mono ?_
  rintro _ w4 ⟨⟨h, -⟩ | ⟨-, i', rfl, hi'⟩, rfl⟩
  · exact absurd HC.out h
  obtain rfl := hi'.unique HI.out
  clear hi'
  go_wp2_with fail
  refine (error_none _).mono ?_
  rintro _ w4 ⟨rfl, rfl⟩
  have q4 : ((i' : Int) == (i' : Int)) = true := by simp
  go_wp2_with fail
  refine (gap_any _ xs _ HA3.out HC.out).mono ?_
  rintro _ w4 ⟨⟨a', b', rfl, ha', hb'⟩, rfl⟩
  obtain rfl := ha'.unique HMIN.out
  obtain rfl := hb'.unique HMAX.out
  clear ha' hb'
  go_wp2_with fail
  refine (error_none _).mono ?_
  rintro _ w4 ⟨rfl, rfl⟩
  have q5 : (b' - a' == b' - a') = true := by simp
  go_wp2_with fail
  refine (lawIn_any _ _ _ _).mono ?_
  by_cases hm : 0 ≤ m ∧ m ≤ 1000
  · have HM := Lib.hid (decide_eq_true hm)
    rw [HM.out]
    rintro _ w4 ⟨rfl, rfl⟩
    obtain ⟨m', rfl⟩ : ∃ m' : Nat, m = m' := ⟨m.toNat, by omega⟩
    have hm' : m' ≤ 1000 := by omega
    clear hm
    go_wp2_with fail
    go_loopw [14, 15, 16] (fun v i _ wr => ∃ k : Nat, k ≤ m' ∧ i = .int .i64 (k : Nat) ∧ WantRel w3 wr xs k v) (fun _ i _ _ => m' - (intOf i).toNat)
    case atStart => exact ⟨0, Nat.zero_le _, rfl, xs, rfl, HA3.out, Below.refl ..⟩
    case round =>
      obtain ⟨k, hk, rfl, ys, hu, hr, hb⟩ := hrel
      have HU := Lib.hid hu
      have HR := Lib.hid hr
      have HB := Lib.hid hb
      have HYL := Lib.hid hu.length
      have HYB := Lib.hid (show ∀ y ∈ ys, 0 ≤ y ∧ y ≤ 3000 from fun y hy => by
        obtain ⟨j, hj, e⟩ := List.mem_iff_getElem.1 hy
        obtain ⟨x, hx⟩ : ∃ x, xs[j]? = some x := ⟨_, List.getElem?_eq_getElem (by have := hu.length; omega)⟩
        have h1 := hu.ge j x y hx (by rw [List.getElem?_eq_getElem hj, e])
        have h2 := HX.out x (List.mem_of_getElem? hx)
        omega)
      clear hu hr hb
      by_cases hlt : k < m'
      · have HR' := HR.out
        obtain ⟨av, cv, rfl, hv1, hv2, hvc⟩ := HR'
        obtain ⟨bv, ov, rfl, hbv, hvc⟩ := hvc (by have := HYL.out; omega)
        go_wp2_with fail
        refine (refLeast_any _ ys _ HR.out (by have := HYL.out; omega)).mono ?_
        rintro _ w5 ⟨⟨j, rfl, hj⟩, d5, rfl⟩
        obtain ⟨y, hy, -, -⟩ := id hj
        have hjl : j < ys.length := by
          rcases Nat.lt_or_ge j ys.length with h | h
          · exact h
          · rw [List.getElem?_eq_none h] at hy; cases hy
        obtain ⟨n, hn⟩ : ∃ n, n = ys.length := ⟨_, rfl⟩
        rw [← hn] at hjl ⊢
        have hyc := hvc j y hy
        have hyb1 := (HYB.out y (List.mem_of_getElem? hy)).1
        have hyb2 := (HYB.out y (List.mem_of_getElem? hy)).2
        have EU := Lib.hid (show Uses ys (ys.set j (y + 1)) from ⟨j, y, hj, hy, rfl⟩)
        have HR5 := Lib.hid (HR.out.drewN d5)
        have HN := Lib.hid hn
        have hn16 : n ≤ 16 := by have := HYL.out; omega
        clear hj hy hvc hn hv1 hv2
        go_wp2_with fail
        refine (set_any _ ys j (y + 1) _ (by have := HR5.out; rw [← HN.out] at this; exact this) (by have := HN.out; omega) (by have := HN.out; omega)).mono ?_
        rintro _ w6 ⟨⟨v6, rfl, hown6⟩, hb6⟩
        have hi6 := (HasInts.of_own hown6).2
        have hb6' := (below_drewN HB.out d5).trans (hb6.mono (below_drewN HB.out d5).size)
        have HI6 := Lib.hid hi6
        have HB6 := Lib.hid hb6'
        clear hi6 hb6' hb6 hown6
        go_wp2_with fail
        go_roundw
        case rel => exact ⟨k + 1, by omega, by go_num, _, ⟨_, HU.out, EU.out⟩, HI6.out, HB6.out⟩
        case measure => simp [intOf]; omega
      · have hkm : k = m' := by omega
        obtain ⟨wp, rfl⟩ : ∃ wp : World, wp = wr := ⟨_, rfl⟩
        obtain ⟨up, rfl⟩ : ∃ up : Value, up = u14 := ⟨_, rfl⟩
        have HUM := Lib.hid (show UsesN m' xs ys from hkm ▸ HU.out)
        have HA4 := Lib.hid (HA3.out.below HB.out)
        go_wp2_with fail
        refine (after_any _ xs m' _ HA4.out (by omega) HC.out).mono ?_
        rintro _ w5 ⟨⟨v, ys', rfl, hu', hown5⟩, hb5⟩
        rw [Int.toNat_natCast] at hu'
        obtain rfl := hu'.unique HUM.out
        have HI5 := Lib.hid (HasInts.of_own hown5).2
        have HR5 := Lib.hid (HR.out.below hb5)
        have hb5' := (HB3.out.trans (HB.out.mono HB3.out.size))
        have HB5 := Lib.hid (hb5'.trans (hb5.mono hb5'.size))
        clear hu' hown5 hb5 hb5' hkm
        go_wp2_with fail
        refine (error_none _).mono ?_
        rintro _ w6 ⟨rfl, rfl⟩
        go_wp2_with fail
        refine (ints_any _ _ _ _ _ HI5.out HR5.out).mono ?_
        rintro _ w7 ⟨rfl, d7, rfl⟩
        go_wp2_with fail
        go_ret
        exact ⟨by simp, below_drewN HB5.out _⟩
  · have HM := Lib.hid (decide_eq_false hm)
    have HM' := Lib.hid hm
    rw [HM.out]
    rintro _ w4 ⟨rfl, rfl⟩
    clear hm
    go_wp2_with fail
    refine (after_bad _ xs m 1 _ HA3.out (by omega) (.inr ⟨HC.out, HM'.out, rfl⟩)).mono ?_
    rintro _ w5 ⟨rfl, rfl⟩
    go_wp2_with fail
    refine (error_same 1 _ HG3.out).mono ?_
    rintro _ w6 ⟨rfl, hb6⟩
    have HB6 := Lib.hid (HB3.out.trans (hb6.mono HB3.out.size))
    clear hb6
    go_wp2_with fail
    refine (ints_any _ _ _ _ _ (HasInts.nil _) (HasInts.nil _)).mono ?_
    rintro _ w7 ⟨rfl, d7, rfl⟩
    go_wp2_with fail
    go_ret
    exact ⟨rfl, below_drewN HB6.out _⟩

theorem wearSays_walk (va : Value) (m : Int) (w : World) {xs : List Int} (hax : IntsArg w va xs) (hm : -9223372036854775808 ≤ m ∧ m ≤ 9223372036854775807) (hg : Handled w) :
    Calls Tryd.prog 7 #[va, .int .i64 m] w fun e w' => e = .returned (.bool true) ∧ Below w.heap.size w w' := by
  by_cases hc : codeOf xs = 0
  · exact wearSays_good va m w hax.1 hg hc
  · exact wearSays_bad va m _ w hax.1 hg hc rfl

end Go.Proofs.YtgiehdlkgjmojaaDoor
