/- The walk of DeltaSays. -/
import Derived.Test.YtglcljeeigilnaaDoorRefDelta
import Derived.Test.YtglcljeeigilnaaDoorRefApply
import Derived.Test.YtglcljeeigilnaaDoorReadPcs
import Derived.Test.YtglcljeeigilnaaDoorTold
namespace Go.Proofs.YtglcljeeigilnaaDoor
open Go.RowKit Delta

theorem errC_V (k : Int) : errC k = errV k := rfl

set_option maxRecDepth 100000 in
set_option maxHeartbeats 8000000 in
theorem dsays_walk (o t : ByteArray) (z : Int) (v0 : Value) (W : World) {l : List Pc} (ho : o.size ≤ 140737488351232) (ht : t.size ≤ 140737488351232) (_hz : -9223372036854775808 ≤ z ∧ z ≤ 9223372036854775807) (hv0 : PiecesArg W v0 l) (hH : Handled W) :
    Calls Tryd.prog 4 #[.string o, .string t, .int .i64 z, v0] W fun e w' => e = .returned (.bool true) ∧ Below W.heap.size W w' := by
  have HV := Lib.hid hv0.1
  have HSZ := Lib.hid hv0.2.1
  have HPB := Lib.hid hv0.2.2
  have HH := Lib.hid hH
  have HSM := Lib.hid (show ∀ p ∈ l, p.own.size ≤ maxLen from fun p hp => by have := hv0.2.1 p hp; unfold maxLen; omega)
  obtain ⟨va, n, cap, rfl, hn, hnm⟩ : ∃ va n cap, v0 = .slice va n cap ∧ n = l.length ∧ n ≤ 9223372036854775807 := by
    obtain ⟨a, cap, h, h1, h2, -⟩ := hv0.1
    exact ⟨a, l.length, cap, h, rfl, by unfold maxLen at h2; omega⟩
  have HN := Lib.hid hn
  obtain ⟨R, hR⟩ : ∃ R, R = ap o l := ⟨_, rfl⟩
  have HR := Lib.hid hR
  have HAPP := Lib.hid (fun (w : World) (h : HasPieces w (.slice va n cap) l) => by have h1 := apply_any o (.slice va n cap) l w ho h hv0.2.1; rw [← hR] at h1; exact h1)
  have HREF := Lib.hid (fun (w : World) (h : HasPieces w (.slice va n cap) l) => by have h1 := refapply_any o (.slice va n cap) l w ho h hv0.2.1 hv0.2.2; rw [← hR] at h1; exact h1)
  have HRW := Lib.hid (errC_V R.1)
  obtain ⟨R1, R2⟩ := R
  simp only at HAPP HREF HRW
  clear hv0 hH hn hR
  by_cases h1 : 2000 < o.size
  · have q1 : decide ((2000 : Int) < (o.size : Int)) = true := decide_eq_true (by omega)
    have HD := Lib.hid (show delE o t z = 4 by unfold delE; rw [if_pos (.inl h1)])
    clear h1
    go_enter Tryd.func4, Tryd.ntmps4
    have HEC := Lib.hid (show errC (delE o t z) = .iface 68 (.int .i64 4) by rw [HD.out]; rfl)
    have HNO := Lib.hid (fun w => make_no o t z w ho ht (by rw [HD.out]; omega))
    go_wp2_with fail
    refine (check_any o t z _ ho ht).mono ?_
    rw [HEC.out]
    rintro _ w2 ⟨rfl, rfl⟩
    go_wp2_with fail
    refine (error_same 4 _ HH.out).mono ?_
    rintro _ w3 ⟨rfl, hb3⟩
    have HB3 := Lib.hid hb3
    clear hb3
    go_wp2_with fail
    refine (HNO.out _).mono ?_
    rw [HEC.out]
    rintro _ w4 ⟨rfl, rfl⟩
    go_wp2_with fail
    refine (error_same 4 _ (HH.out.below HB3.out)).mono ?_
    rintro _ w4 ⟨rfl, hb4⟩
    have HB4 := Lib.hid (HB3.out.trans (hb4.mono HB3.out.size))
    clear hb4
    go_wp2_with fail
    refine (pieces_same _ _ [] _ (HasPieces.nil _) (HasPieces.nil _)).mono ?_
    rintro _ w5 ⟨rfl, hb5⟩
    have HB5 := Lib.hid (HB4.out.trans (hb5.mono HB4.out.size))
    clear hb5
    go_wp2_with fail
    refine (HREF.out _ (HV.out.below HB5.out)).mono ?_
    rintro _ w6 ⟨rfl, hb6⟩
    have HB6 := Lib.hid (HB5.out.trans (hb6.mono HB5.out.size))
    clear hb6
    go_wp2_with fail
    refine (HAPP.out _ (HV.out.below HB6.out)).mono ?_
    rw [HRW.out]
    rintro _ w7 ⟨rfl, hb7⟩
    have HB7 := Lib.hid (HB6.out.trans (hb7.mono HB6.out.size))
    clear hb7
    go_wp2_with fail
    obtain ⟨wm, rfl⟩ : ∃ wm : World, wm = w7 := ⟨_, rfl⟩
    go_loopw [17, 18] (fun mv ix wr => ∃ k : Nat, k ≤ n ∧ ix = .int .i64 k ∧ mv = .int .i64 (ownW (l.take k)) ∧ wr = wm) (fun _ ix _ => n - (intOf ix).toNat)
    case atStart => exact ⟨0, by omega, rfl, by simp [ownW], rfl⟩
    case round =>
      obtain ⟨k, hk, rfl, rfl, hw⟩ := hrel
      subst hw
      by_cases hlt : k < n
      · have q9 : decide (k < n) = true := decide_eq_true hlt
        obtain ⟨p, hp⟩ : ∃ p, l[k]? = some p := ⟨_, List.getElem?_eq_getElem (by have := HN.out; omega)⟩
        obtain ⟨a', cap', e1, -, -, hcell⟩ := HV.out.below HB7.out
        obtain ⟨rfl, -, rfl⟩ : va = a' ∧ n = l.length ∧ cap = cap' := by simpa using e1
        obtain ⟨b, off, rfl, hbw, hcs⟩ := hcell (by have := HN.out; omega)
        obtain ⟨c1, c2, c3⟩ := hcs k p hp
        have hs := HSM.out p (List.mem_of_getElem? hp)
        unfold maxLen at hs
        have HST := Lib.hid (ownW_step hp)
        obtain ⟨m, hm⟩ : ∃ m, m = ownW (l.take k) := ⟨_, rfl⟩
        rw [← hm] at HST ⊢
        clear hcell hcs hp e1 c1 c2 hm
        go_wp2_with fail
        go_roundw
        case rel => exact ⟨k + 1, by omega, by go_num, by rw [HST.out], trivial⟩
        case measure => simp [intOf]; omega
      · obtain rfl : k = n := by omega
        have q9 : decide (k < k) = false := decide_eq_false hlt
        have e1 : l.take k = l := List.take_of_length_le (by have := HN.out; omega)
        rw [e1]
        obtain ⟨m, hm⟩ : ∃ m, m = ownW l := ⟨_, rfl⟩
        rw [← hm]
        have HOW := Lib.hid hm
        have q10 : (R1 == R1) = true := by simp
        have q11 : (m == m) = true := by simp
        have q12 : (R2.toList == R2.toList) = true := by simp
        clear e1 hm
        go_wp2_with fail
        refine (error_any R1 R1 _ (HH.out.below HB7.out)).mono ?_
        rintro _ w8 ⟨rfl, hb8⟩
        have HB8 := Lib.hid (HB7.out.trans (hb8.mono HB7.out.size))
        clear hb8
        go_wp2_with fail
        refine (own_any _ l _ (HV.out.below HB8.out) HSM.out).mono ?_
        rw [← HOW.out]
        rintro _ w9 ⟨rfl, hb9⟩
        have HB9 := Lib.hid (HB8.out.trans (hb9.mono HB8.out.size))
        clear hb9
        go_wp2_with fail
        go_ret
        exact ⟨rfl, HB9.out⟩
  · have q1 : decide ((2000 : Int) < (o.size : Int)) = false := decide_eq_false (by omega)
    by_cases h2 : 2000 < t.size
    · have q2 : decide ((2000 : Int) < (t.size : Int)) = true := decide_eq_true (by omega)
      have HD := Lib.hid (show delE o t z = 4 by unfold delE; rw [if_pos (.inr h2)])
      clear h1 h2
      go_enter Tryd.func4, Tryd.ntmps4
      have HEC := Lib.hid (show errC (delE o t z) = .iface 68 (.int .i64 4) by rw [HD.out]; rfl)
      have HNO := Lib.hid (fun w => make_no o t z w ho ht (by rw [HD.out]; omega))
      go_wp2_with fail
      refine (check_any o t z _ ho ht).mono ?_
      rw [HEC.out]
      rintro _ w2 ⟨rfl, rfl⟩
      go_wp2_with fail
      refine (error_same 4 _ HH.out).mono ?_
      rintro _ w3 ⟨rfl, hb3⟩
      have HB3 := Lib.hid hb3
      clear hb3
      go_wp2_with fail
      refine (HNO.out _).mono ?_
      rw [HEC.out]
      rintro _ w4 ⟨rfl, rfl⟩
      go_wp2_with fail
      refine (error_same 4 _ (HH.out.below HB3.out)).mono ?_
      rintro _ w4 ⟨rfl, hb4⟩
      have HB4 := Lib.hid (HB3.out.trans (hb4.mono HB3.out.size))
      clear hb4
      go_wp2_with fail
      refine (pieces_same _ _ [] _ (HasPieces.nil _) (HasPieces.nil _)).mono ?_
      rintro _ w5 ⟨rfl, hb5⟩
      have HB5 := Lib.hid (HB4.out.trans (hb5.mono HB4.out.size))
      clear hb5
      go_wp2_with fail
      refine (HREF.out _ (HV.out.below HB5.out)).mono ?_
      rintro _ w6 ⟨rfl, hb6⟩
      have HB6 := Lib.hid (HB5.out.trans (hb6.mono HB5.out.size))
      clear hb6
      go_wp2_with fail
      refine (HAPP.out _ (HV.out.below HB6.out)).mono ?_
      rw [HRW.out]
      rintro _ w7 ⟨rfl, hb7⟩
      have HB7 := Lib.hid (HB6.out.trans (hb7.mono HB6.out.size))
      clear hb7
      go_wp2_with fail
      obtain ⟨wm, rfl⟩ : ∃ wm : World, wm = w7 := ⟨_, rfl⟩
      go_loopw [17, 18] (fun mv ix wr => ∃ k : Nat, k ≤ n ∧ ix = .int .i64 k ∧ mv = .int .i64 (ownW (l.take k)) ∧ wr = wm) (fun _ ix _ => n - (intOf ix).toNat)
      case atStart => exact ⟨0, by omega, rfl, by simp [ownW], rfl⟩
      case round =>
        obtain ⟨k, hk, rfl, rfl, hw⟩ := hrel
        subst hw
        by_cases hlt : k < n
        · have q9 : decide (k < n) = true := decide_eq_true hlt
          obtain ⟨p, hp⟩ : ∃ p, l[k]? = some p := ⟨_, List.getElem?_eq_getElem (by have := HN.out; omega)⟩
          obtain ⟨a', cap', e1, -, -, hcell⟩ := HV.out.below HB7.out
          obtain ⟨rfl, -, rfl⟩ : va = a' ∧ n = l.length ∧ cap = cap' := by simpa using e1
          obtain ⟨b, off, rfl, hbw, hcs⟩ := hcell (by have := HN.out; omega)
          obtain ⟨c1, c2, c3⟩ := hcs k p hp
          have hs := HSM.out p (List.mem_of_getElem? hp)
          unfold maxLen at hs
          have HST := Lib.hid (ownW_step hp)
          obtain ⟨m, hm⟩ : ∃ m, m = ownW (l.take k) := ⟨_, rfl⟩
          rw [← hm] at HST ⊢
          clear hcell hcs hp e1 c1 c2 hm
          go_wp2_with fail
          go_roundw
          case rel => exact ⟨k + 1, by omega, by go_num, by rw [HST.out], trivial⟩
          case measure => simp [intOf]; omega
        · obtain rfl : k = n := by omega
          have q9 : decide (k < k) = false := decide_eq_false hlt
          have e1 : l.take k = l := List.take_of_length_le (by have := HN.out; omega)
          rw [e1]
          obtain ⟨m, hm⟩ : ∃ m, m = ownW l := ⟨_, rfl⟩
          rw [← hm]
          have HOW := Lib.hid hm
          have q10 : (R1 == R1) = true := by simp
          have q11 : (m == m) = true := by simp
          have q12 : (R2.toList == R2.toList) = true := by simp
          clear e1 hm
          go_wp2_with fail
          refine (error_any R1 R1 _ (HH.out.below HB7.out)).mono ?_
          rintro _ w8 ⟨rfl, hb8⟩
          have HB8 := Lib.hid (HB7.out.trans (hb8.mono HB7.out.size))
          clear hb8
          go_wp2_with fail
          refine (own_any _ l _ (HV.out.below HB8.out) HSM.out).mono ?_
          rw [← HOW.out]
          rintro _ w9 ⟨rfl, hb9⟩
          have HB9 := Lib.hid (HB8.out.trans (hb9.mono HB8.out.size))
          clear hb9
          go_wp2_with fail
          go_ret
          exact ⟨rfl, HB9.out⟩
    · have q2 : decide ((2000 : Int) < (t.size : Int)) = false := decide_eq_false (by omega)
      by_cases h3 : 1 ≤ z ∧ z ≤ 64
      · obtain ⟨zn, rfl⟩ : ∃ zn : Nat, z = zn := ⟨z.toNat, by omega⟩
        have hz1 : 1 ≤ zn := by omega
        have hz64 : zn ≤ 64 := by omega
        have h1 : o.size ≤ 2000 := by omega
        have h2 : t.size ≤ 2000 := by omega
        have HD := Lib.hid (show delE o t (zn : Int) = 0 by unfold delE; rw [if_neg (by omega), if_pos h3])
        have HEC := Lib.hid (show errC (delE o t (zn : Int)) = .nilIface by rw [HD.out]; rfl)
        have D := Lib.hid (decide_eq_true h3)
        clear h3 ho ht
        go_enter Tryd.func4, Tryd.ntmps4
        go_wp2_with fail
        refine (law_inC _ _ _ _).mono ?_
        rw [D.out]
        rintro _ w1 ⟨rfl, rfl⟩
        go_wp2_with fail
        refine (check_any o t zn _ (by omega) (by omega)).mono ?_
        rw [HEC.out]
        rintro _ w2 ⟨rfl, rfl⟩
        go_wp2_with fail
        refine (error_none _).mono ?_
        rintro _ w2 ⟨rfl, rfl⟩
        go_wp2_with fail
        refine (refdelta_walk o t zn _ h1 h2 hz1 hz64).mono ?_
        rintro _ w3 ⟨v3, out3, rfl, hr3, ho3, hb3⟩
        have HP3 := Lib.hid (HasPieces.of_own ho3).2
        have HR3 := Lib.hid hr3
        have HB3 := Lib.hid hb3
        obtain ⟨va3, cap3, rfl⟩ := own_shapeR ho3
        clear hr3 ho3 hb3
        go_wp2_with fail
        refine (make_ok o t zn _ h1 h2 hz1 hz64).mono ?_
        rintro _ w4 ⟨v4, out4, rfl, hr4, ho4, hb4⟩
        obtain rfl := hr4.unique hz1 HR3.out
        have HP4 := Lib.hid (HasPieces.of_own ho4).2
        have HP34 := Lib.hid (HP3.out.below hb4)
        have HB4 := Lib.hid (HB3.out.trans (hb4.mono HB3.out.size))
        clear hr4 ho4 hb4
        go_wp2_with fail
        refine (error_none _).mono ?_
        rintro _ w5 ⟨rfl, rfl⟩
        go_wp2_with fail
        refine (pieces_same _ _ _ _ HP4.out HP34.out).mono ?_
        rintro _ w5 ⟨rfl, hb5⟩
        have HB5 := Lib.hid (HB4.out.trans (hb5.mono HB4.out.size))
        clear hb5
        go_wp2_with fail
        refine (HREF.out _ (HV.out.below HB5.out)).mono ?_
        rintro _ w6 ⟨rfl, hb6⟩
        have HB6 := Lib.hid (HB5.out.trans (hb6.mono HB5.out.size))
        clear hb6
        go_wp2_with fail
        refine (HAPP.out _ (HV.out.below HB6.out)).mono ?_
        rw [HRW.out]
        rintro _ w7 ⟨rfl, hb7⟩
        have HB7 := Lib.hid (HB6.out.trans (hb7.mono HB6.out.size))
        clear hb7
        go_wp2_with fail
        obtain ⟨wm, rfl⟩ : ∃ wm : World, wm = w7 := ⟨_, rfl⟩
        go_loopw [17, 18] (fun mv ix wr => ∃ k : Nat, k ≤ n ∧ ix = .int .i64 k ∧ mv = .int .i64 (ownW (l.take k)) ∧ wr = wm) (fun _ ix _ => n - (intOf ix).toNat)
        case atStart => exact ⟨0, by omega, rfl, by simp [ownW], rfl⟩
        case round =>
          obtain ⟨k, hk, rfl, rfl, hw⟩ := hrel
          subst hw
          by_cases hlt : k < n
          · have q9 : decide (k < n) = true := decide_eq_true hlt
            obtain ⟨p, hp⟩ : ∃ p, l[k]? = some p := ⟨_, List.getElem?_eq_getElem (by have := HN.out; omega)⟩
            obtain ⟨a', cap', e1, -, -, hcell⟩ := HV.out.below HB7.out
            obtain ⟨rfl, -, rfl⟩ : va = a' ∧ n = l.length ∧ cap = cap' := by simpa using e1
            obtain ⟨b, off, rfl, hbw, hcs⟩ := hcell (by have := HN.out; omega)
            obtain ⟨c1, c2, c3⟩ := hcs k p hp
            have hs := HSM.out p (List.mem_of_getElem? hp)
            unfold maxLen at hs
            have HST := Lib.hid (ownW_step hp)
            obtain ⟨m, hm⟩ : ∃ m, m = ownW (l.take k) := ⟨_, rfl⟩
            rw [← hm] at HST ⊢
            clear hcell hcs hp e1 c1 c2 hm
            go_wp2_with fail
            go_roundw
            case rel => exact ⟨k + 1, by omega, by go_num, by rw [HST.out], trivial⟩
            case measure => simp [intOf]; omega
          · obtain rfl : k = n := by omega
            have q9 : decide (k < k) = false := decide_eq_false hlt
            have e1 : l.take k = l := List.take_of_length_le (by have := HN.out; omega)
            rw [e1]
            obtain ⟨m, hm⟩ : ∃ m, m = ownW l := ⟨_, rfl⟩
            rw [← hm]
            have HOW := Lib.hid hm
            have q10 : (R1 == R1) = true := by simp
            have q11 : (m == m) = true := by simp
            have q12 : (R2.toList == R2.toList) = true := by simp
            clear e1 hm
            go_wp2_with fail
            refine (error_any R1 R1 _ (HH.out.below HB7.out)).mono ?_
            rintro _ w8 ⟨rfl, hb8⟩
            have HB8 := Lib.hid (HB7.out.trans (hb8.mono HB7.out.size))
            clear hb8
            go_wp2_with fail
            refine (own_any _ l _ (HV.out.below HB8.out) HSM.out).mono ?_
            rw [← HOW.out]
            rintro _ w9 ⟨rfl, hb9⟩
            have HB9 := Lib.hid (HB8.out.trans (hb9.mono HB8.out.size))
            clear hb9
            go_wp2_with fail
            go_ret
            exact ⟨rfl, HB9.out⟩
      · have HD := Lib.hid (show delE o t z = 1 by unfold delE; rw [if_neg (by omega), if_neg h3])
        have D := Lib.hid (decide_eq_false h3)
        clear h1 h2 h3
        go_enter Tryd.func4, Tryd.ntmps4
        go_wp2_with fail
        refine (law_inC _ _ _ _).mono ?_
        rw [D.out]
        rintro _ w1 ⟨rfl, rfl⟩
        have HEC := Lib.hid (show errC (delE o t z) = .iface 68 (.int .i64 1) by rw [HD.out]; rfl)
        have HNO := Lib.hid (fun w => make_no o t z w ho ht (by rw [HD.out]; omega))
        go_wp2_with fail
        refine (check_any o t z _ ho ht).mono ?_
        rw [HEC.out]
        rintro _ w2 ⟨rfl, rfl⟩
        go_wp2_with fail
        refine (error_same 1 _ HH.out).mono ?_
        rintro _ w3 ⟨rfl, hb3⟩
        have HB3 := Lib.hid hb3
        clear hb3
        go_wp2_with fail
        refine (HNO.out _).mono ?_
        rw [HEC.out]
        rintro _ w4 ⟨rfl, rfl⟩
        go_wp2_with fail
        refine (error_same 1 _ (HH.out.below HB3.out)).mono ?_
        rintro _ w4 ⟨rfl, hb4⟩
        have HB4 := Lib.hid (HB3.out.trans (hb4.mono HB3.out.size))
        clear hb4
        go_wp2_with fail
        refine (pieces_same _ _ [] _ (HasPieces.nil _) (HasPieces.nil _)).mono ?_
        rintro _ w5 ⟨rfl, hb5⟩
        have HB5 := Lib.hid (HB4.out.trans (hb5.mono HB4.out.size))
        clear hb5
        go_wp2_with fail
        refine (HREF.out _ (HV.out.below HB5.out)).mono ?_
        rintro _ w6 ⟨rfl, hb6⟩
        have HB6 := Lib.hid (HB5.out.trans (hb6.mono HB5.out.size))
        clear hb6
        go_wp2_with fail
        refine (HAPP.out _ (HV.out.below HB6.out)).mono ?_
        rw [HRW.out]
        rintro _ w7 ⟨rfl, hb7⟩
        have HB7 := Lib.hid (HB6.out.trans (hb7.mono HB6.out.size))
        clear hb7
        go_wp2_with fail
        obtain ⟨wm, rfl⟩ : ∃ wm : World, wm = w7 := ⟨_, rfl⟩
        go_loopw [17, 18] (fun mv ix wr => ∃ k : Nat, k ≤ n ∧ ix = .int .i64 k ∧ mv = .int .i64 (ownW (l.take k)) ∧ wr = wm) (fun _ ix _ => n - (intOf ix).toNat)
        case atStart => exact ⟨0, by omega, rfl, by simp [ownW], rfl⟩
        case round =>
          obtain ⟨k, hk, rfl, rfl, hw⟩ := hrel
          subst hw
          by_cases hlt : k < n
          · have q9 : decide (k < n) = true := decide_eq_true hlt
            obtain ⟨p, hp⟩ : ∃ p, l[k]? = some p := ⟨_, List.getElem?_eq_getElem (by have := HN.out; omega)⟩
            obtain ⟨a', cap', e1, -, -, hcell⟩ := HV.out.below HB7.out
            obtain ⟨rfl, -, rfl⟩ : va = a' ∧ n = l.length ∧ cap = cap' := by simpa using e1
            obtain ⟨b, off, rfl, hbw, hcs⟩ := hcell (by have := HN.out; omega)
            obtain ⟨c1, c2, c3⟩ := hcs k p hp
            have hs := HSM.out p (List.mem_of_getElem? hp)
            unfold maxLen at hs
            have HST := Lib.hid (ownW_step hp)
            obtain ⟨m, hm⟩ : ∃ m, m = ownW (l.take k) := ⟨_, rfl⟩
            rw [← hm] at HST ⊢
            clear hcell hcs hp e1 c1 c2 hm
            go_wp2_with fail
            go_roundw
            case rel => exact ⟨k + 1, by omega, by go_num, by rw [HST.out], trivial⟩
            case measure => simp [intOf]; omega
          · obtain rfl : k = n := by omega
            have q9 : decide (k < k) = false := decide_eq_false hlt
            have e1 : l.take k = l := List.take_of_length_le (by have := HN.out; omega)
            rw [e1]
            obtain ⟨m, hm⟩ : ∃ m, m = ownW l := ⟨_, rfl⟩
            rw [← hm]
            have HOW := Lib.hid hm
            have q10 : (R1 == R1) = true := by simp
            have q11 : (m == m) = true := by simp
            have q12 : (R2.toList == R2.toList) = true := by simp
            clear e1 hm
            go_wp2_with fail
            refine (error_any R1 R1 _ (HH.out.below HB7.out)).mono ?_
            rintro _ w8 ⟨rfl, hb8⟩
            have HB8 := Lib.hid (HB7.out.trans (hb8.mono HB7.out.size))
            clear hb8
            go_wp2_with fail
            refine (own_any _ l _ (HV.out.below HB8.out) HSM.out).mono ?_
            rw [← HOW.out]
            rintro _ w9 ⟨rfl, hb9⟩
            have HB9 := Lib.hid (HB8.out.trans (hb9.mono HB8.out.size))
            clear hb9
            go_wp2_with fail
            go_ret
            exact ⟨rfl, HB9.out⟩

end Go.Proofs.YtglcljeeigilnaaDoor
