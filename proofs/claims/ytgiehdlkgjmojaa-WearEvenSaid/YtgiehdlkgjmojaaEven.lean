/- The walk of WearEven. -/
import Derived.Test.YtgiehdlkgjmojaaFills
import Derived.Test.YtgiehdlkgjmojaaSum
import Derived.Test.YtgiehdlkgjmojaaWearGap
namespace Go.Proofs.Ytgiehdlkgjmojaa
open Go.RowKit Wear

set_option maxHeartbeats 1000000 in
theorem even_walk (va : Value) (m : Int) (w : World) {xs : List Int} (hax : IntsArg w va xs) (hm : -9223372036854775808 ≤ m ∧ m ≤ 9223372036854775807) :
    Calls Try.prog 4 #[va, .int .i64 m] w fun e w' => e = .returned (.bool true) ∧ Below w.heap.size w w' := by
  have HA := Lib.hid hax.1
  clear hax
  go_enter Try.func4, Try.ntmps4
  go_wp2_with fail
  refine (wearFact_any _).mono ?_
  rintro _ w1 ⟨rfl, hb1⟩
  have HB1 := Lib.hid hb1
  have HA1 := Lib.hid (HA.out.below hb1)
  clear hb1
  go_wp2_with fail
  by_cases hc : codeOf xs = 0
  · refine (gap_any _ xs _ HA1.out hc).mono ?_
    rintro _ w2 ⟨⟨mn, mx, rfl, hmn, hmx⟩, rfl⟩
    obtain ⟨hx1, hx2, hx3⟩ := code_ok hc
    have HX := Lib.hid hx3
    by_cases hm' : 0 ≤ m ∧ m ≤ 1000
    · obtain ⟨m', rfl⟩ : ∃ m' : Nat, m = m' := ⟨m.toNat, by omega⟩
      have HC := Lib.hid hc
      have hm1 : m' ≤ 1000 := by omega
      have HG := Lib.hid (show GapLe xs (mx - mn) from fun x hx y hy => by have := hmn.2 y hy; have := hmx.2 x hx; omega)
      have hmb1 := (HX.out mn hmn.1).1
      have hmb2 := (HX.out mn hmn.1).2
      have hmb3 := (HX.out mx hmx.1).1
      have hmb4 := (HX.out mx hmx.1).2
      clear hc hmn hmx hx3
      go_wp2_with fail
      refine (after_any _ xs m' _ HA1.out hm' HC.out).mono ?_
      rintro _ w2 ⟨⟨v, ys, rfl, hu, hown⟩, hb2⟩
      rw [Int.toNat_natCast] at hu
      have HU := Lib.hid hu
      have HB2 := Lib.hid (HB1.out.trans (hb2.mono HB1.out.size))
      have hys := (HasInts.of_own hown).2
      have HYS := Lib.hid hys
      have HA2 := Lib.hid (HA1.out.below hb2)
      have hly := hu.length
      have HYB := Lib.hid (show ∀ y ∈ ys, 0 ≤ y ∧ y ≤ 3000 from fun y hy => by
        obtain ⟨j, hj, e⟩ := List.mem_iff_getElem.1 hy
        obtain ⟨x, hx⟩ : ∃ x, xs[j]? = some x := ⟨_, List.getElem?_eq_getElem (by omega)⟩
        have h1 := hu.ge j x y hx (by rw [List.getElem?_eq_getElem hj, e])
        have h2 := HX.out x (List.mem_of_getElem? hx)
        omega)
      have HSUM := Lib.hid hu.sum
      have hsb := sum_boundsS (l := xs) (B := 1000) HX.out
      obtain ⟨S, hS⟩ : ∃ S, S = xs.sum := ⟨_, rfl⟩
      have hs1 : 0 ≤ S := by omega
      have hs2 : S ≤ 16000 := by omega
      have HS := Lib.hid hS
      obtain ⟨a, cap, rfl, ha1, ha2, hac⟩ := HA2.out
      obtain ⟨av, cv, rfl, hv1, hv2, hvc⟩ := hys
      obtain ⟨b, o, rfl, hbx, hac⟩ := hac hx1
      obtain ⟨bv, ov, rfl, hbv, hvc⟩ := hvc (by omega)
      obtain ⟨n, hn⟩ : ∃ n, n = xs.length := ⟨_, rfl⟩
      rw [← hn] at hx1 hx2 hly ⊢
      rw [hly]
      have HN := Lib.hid hn
      have HLY := Lib.hid hly
      have HAC := Lib.hid hac
      have HVC := Lib.hid hvc
      clear hu hown hb2 hsb hS hn hly hac hvc ha1 ha2 hv1 hv2 hm'
      have q0 : ((n : Int) == (n : Int)) = true := by simp
      go_wp2_with fail
      refine (sum_anyS _ ys _ (by have := HYS.out; rw [HLY.out] at this; exact this) (by have := HLY.out; omega) (fun x hx => by have := HYB.out x hx; omega)).mono ?_
      rw [HSUM.out, ← HS.out]
      rintro _ w3 ⟨rfl, rfl⟩
      go_wp2_with fail
      refine (sum_anyS _ xs _ (by have := HA2.out; rw [← HN.out] at this; exact this) (by have := HN.out; omega) (fun x hx => by have := HX.out x hx; omega)).mono ?_
      rw [← HS.out]
      rintro _ w3 ⟨rfl, rfl⟩
      have q1 : (S + (m' : Int) != S + (m' : Int)) = false := by simp
      go_wp2_with fail
      refine (rising_any _ ys _ (by have := HYS.out; rw [HLY.out] at this; exact this) (by have := HLY.out; omega)).mono ?_
      rintro _ w4 ⟨⟨v4, zs, rfl, hown4, hp4, hup4⟩, hb4⟩
      have HB4 := Lib.hid (HB2.out.trans (hb4.mono HB2.out.size))
      have hz := (HasInts.of_own hown4).2
      have hzl : zs.length = n := by have := hp4.length_eq; have := HLY.out; omega
      obtain ⟨az, cz, rfl, hcz1, hcz2, hcz⟩ := hz
      obtain ⟨bz, oz, rfl, hbz, hcz⟩ := hcz (by omega)
      obtain ⟨nz, hnz⟩ : ∃ nz, zs.length = nz + 1 := ⟨zs.length - 1, by omega⟩
      obtain ⟨A, hA⟩ : ∃ A, zs[0]? = some A := ⟨_, List.getElem?_eq_getElem (by omega)⟩
      obtain ⟨Bz, hB⟩ : ∃ Bz, zs[nz]? = some Bz := ⟨_, List.getElem?_eq_getElem (by omega)⟩
      have hAc := hcz 0 A hA
      have hBc := hcz nz Bz hB
      simp only [Nat.add_zero] at hAc
      have HGAP := Lib.hid (fun g => gap_iff hp4 hup4 hA (by rw [hnz]; exact hB) g)
      have hA1 := (HYB.out A (hp4.mem_iff.1 (List.mem_of_getElem? hA))).1
      have hA2 := (HYB.out A (hp4.mem_iff.1 (List.mem_of_getElem? hA))).2
      have hB1 := (HYB.out Bz (hp4.mem_iff.1 (List.mem_of_getElem? hB))).1
      have hB2 := (HYB.out Bz (hp4.mem_iff.1 (List.mem_of_getElem? hB))).2
      have HFIN := Lib.hid (show Bz - A ≤ mx - mn ∨ Bz - A ≤ 1 from by
        by_cases h1 : 1 ≤ mx - mn
        · exact .inl ((HGAP.out _).2 (HU.out.gap HG.out h1))
        · exact .inr ((HGAP.out _).2 (HU.out.gap (fun x hx y hy => by have := HG.out x hx y hy; omega) (by omega))))
      have HAC4 := Lib.hid (show ∀ j x, xs[j]? = some x → w4.cell? ⟨b, o + j, none⟩ = some (.int .i64 x) from fun j x h => by rw [hb4.cell (p := ⟨b, o + j, none⟩) hbx]; exact HAC.out j x h)
      have HVC4 := Lib.hid (show ∀ j x, ys[j]? = some x → w4.cell? ⟨bv, ov + j, none⟩ = some (.int .i64 x) from fun j x h => by rw [hb4.cell (p := ⟨bv, ov + j, none⟩) hbv]; exact HVC.out j x h)
      have hnz16 : nz + 1 ≤ 16 := by omega
      rw [hnz]
      clear hcz hA hB hp4 hup4 hown4 hb4 hnz hcz1 hcz2 hzl
      have q2 : IntKind.i64.wrap (nz : Int) = nz := IntWalk.i64_in _ (by omega)
      have q3 : IntKind.i64.wrap (Bz - A) = Bz - A := IntWalk.i64_in _ (by omega)
      go_wp2_with fail
      go_quiet (fail)
      clear q2 q3
      go_wp2_with fail
      go_loopw [12] (fun i wr => ∃ k : Nat, k ≤ n ∧ i = .int .i64 (k : Nat) ∧ ∃ d, wr = w4.drewN d) (fun i _ => n - (intOf i).toNat)
      case atStart => exact ⟨0, Nat.zero_le _, rfl, _, rfl⟩
      case round =>
        obtain ⟨k, hk, rfl, d, rfl⟩ := hrel
        by_cases hlt : k < n
        · obtain ⟨x, hx⟩ : ∃ x, xs[k]? = some x := ⟨_, List.getElem?_eq_getElem (by have := HN.out; omega)⟩
          obtain ⟨y, hy⟩ : ∃ y, ys[k]? = some y := ⟨_, List.getElem?_eq_getElem (by have := HLY.out; omega)⟩
          have hxc := HAC4.out k x hx
          have hyc := HVC4.out k y hy
          have hge := (HU.out.ge k x y hx hy).1
          have q4 : decide (y < x) = false := decide_eq_false (by omega)
          clear hx hy hge
          go_wp2_with fail
          go_quiet (fail)
          go_wp2_with fail
          go_roundw
          case rel => exact ⟨k + 1, by omega, by go_num, _, rfl⟩
          case measure => simp [intOf]; omega
        · by_cases hf : Bz - A ≤ mx - mn
          · have q5 : decide (Bz - A ≤ mx - mn) = true := decide_eq_true hf
            go_wp2_with fail
            go_ret
            exact ⟨rfl, below_drewN HB4.out _⟩
          · have q5 : decide (Bz - A ≤ mx - mn) = false := decide_eq_false hf
            have q6 : decide (Bz - A ≤ 1) = true := decide_eq_true (by have := HFIN.out; omega)
            go_wp2_with fail
            go_ret
            exact ⟨rfl, below_drewN HB4.out _⟩
    · clear hmn hmx hx3
      go_wp2_with fail
      refine (after_bad _ xs m 1 _ HA1.out (by omega) (.inr ⟨hc, hm', rfl⟩)).mono ?_
      rintro _ w2 ⟨rfl, rfl⟩
      clear hc hm'
      go_wp2_with fail
      go_ret
      exact ⟨rfl, HB1.out⟩
  · obtain ⟨c, hcc⟩ : ∃ c, codeOf xs = c := ⟨_, rfl⟩
    rw [hcc] at hc
    have HC := Lib.hid hcc
    have HC0 := Lib.hid hc
    clear hcc hc
    refine (gap_bad _ xs c _ HA1.out HC0.out HC.out).mono ?_
    rintro _ w2 ⟨rfl, rfl⟩
    go_wp2_with fail
    refine (after_bad _ xs m c _ HA1.out HC0.out (.inl HC.out)).mono ?_
    rintro _ w3 ⟨rfl, rfl⟩
    go_wp2_with fail
    go_ret
    exact ⟨rfl, HB1.out⟩

end Go.Proofs.Ytgiehdlkgjmojaa
