/- The walk of DeltaBlocks. -/
import Derived.Test.YtglcljeeigilnaaDeltaSm
import Derived.Test.YtglcljeeigilnaaReadInts
namespace Go.Proofs.Ytglcljeeigilnaa
open Go.RowKit Delta

theorem HasInts.liesC {w : World} {a : Option Addr} {n cap : Nat} {L : List Int} (h : HasInts w (.slice a n cap) L) {j : Nat} {x : Int} (hx : L[j]? = some x) :
    ∃ b off, a = some ⟨b, off, none⟩ ∧ w.cell? ⟨b, off + j, none⟩ = some (.int .i64 x) := by
  obtain ⟨a', cap', h1, -, -, h4⟩ := h
  cases h1
  obtain ⟨b, off, h5, -, h6⟩ := h4 (Nat.lt_of_le_of_lt (Nat.zero_le _) (List.getElem?_eq_some_iff.1 hx).1)
  exact ⟨b, off, h5, h6 j x hx⟩

theorem quiet_sameC {P : Program} {f : FuncId} {args : Array Value} {w : World} {n : Nat} {v : Value}
    (h : Calls P f args (w.drewN n) fun e w' => e = .returned v ∧ w.drewN n = w') : Calls P f args (w.drewN n) fun e w'' => e = .returned v ∧ ∃ m, w'' = w.drewN m :=
  h.mono fun _ _ ⟨he, hm⟩ => ⟨he, n, hm.symm⟩

structure BlRel (w wr : World) (o : ByteArray) (n : Nat) (u : ByteArray) (many : Nat) : Prop where
  blocky : Blocky o n u many
  le : u.size ≤ 2000
  manyle : many ≤ u.size
  below : Below w.heap.size w wr

set_option maxRecDepth 100000 in
set_option maxHeartbeats 4000000 in
theorem blocks_walk (o : ByteArray) (v0 : Value) (z : Int) (W : World) {xs : List Int} (ho : o.size ≤ 140737488351232) (hv0 : IntsArg W v0 xs) (_hz : -9223372036854775808 ≤ z ∧ z ≤ 9223372036854775807) :
    Calls Try.prog 4 #[.string o, v0, .int .i64 z] W fun e w' => e = .returned (.bool true) ∧ Below W.heap.size W w' := by
  have HV := Lib.hid hv0.1
  have HXB := Lib.hid hv0.2
  clear hv0
  obtain ⟨la, L, lcap, rfl, hL, hLm⟩ : ∃ la L lcap, v0 = .slice la L lcap ∧ L = xs.length ∧ L ≤ maxLen := by
    obtain ⟨a, cap, h, h1, h2, -⟩ := HV.out
    exact ⟨a, xs.length, cap, h, rfl, by omega⟩
  have hLm' : L ≤ 9223372036854775807 := by unfold maxLen at hLm; omega
  have HLL := Lib.hid hL
  clear hL hLm
  by_cases hE : (1 ≤ z ∧ z ≤ 64) ∧ o.size ≤ 2000
  · obtain ⟨⟨h2, h3⟩, h1⟩ := hE
    obtain ⟨n, rfl⟩ : ∃ n : Nat, z = n := ⟨z.toNat, by omega⟩
    have hn1 : 1 ≤ n := by omega
    have hn64 : n ≤ 64 := by omega
    have D := Lib.hid (decide_eq_true (show (1 : Int) ≤ (n : Int) ∧ (n : Int) ≤ 64 from ⟨h2, h3⟩))
    have q1 : decide ((2000 : Int) < (o.size : Int)) = false := decide_eq_false (by omega)
    clear h2 h3 _hz ho
    go_enter Try.func4, Try.ntmps4
    go_wp2_with fail
    refine (dfact_any _).mono ?_
    rintro _ w1 ⟨rfl, hb⟩
    have HB1 := Lib.hid hb
    clear hb
    go_wp2_with fail
    refine (law_inC _ _ _ _).mono ?_
    rw [D.out]
    rintro _ w2 ⟨rfl, rfl⟩
    go_wp2_with fail
    go_loopw [8, 9, 10] (fun u m ix wr => ∃ (s : ByteArray) (many j : Nat), u = .string s ∧ m = .int .i64 many ∧ ix = .int .i64 j ∧ j ≤ L ∧ BlRel w1 wr o n s many) (fun _ _ ix _ => L - (intOf ix).toNat)
    case atStart => exact ⟨ByteArray.empty, 0, 0, rfl, rfl, rfl, by omega, Blocky.nil o n, by simp, by simp, Below.refl _ _⟩
    case round =>
      obtain ⟨s, many, j, rfl, rfl, rfl, hj, hr⟩ := hrel
      have hs2000 := hr.le
      have hmany := hr.manyle
      have HR := Lib.hid hr
      clear hr
      by_cases hgo : j < L ∧ s.size + n ≤ 2000
      · obtain ⟨hlt, hsn⟩ := hgo
        have q2 : decide (j < L) = true := decide_eq_true hlt
        have q3 : decide ((s.size : Int) + (n : Int) ≤ 2000) = true := decide_eq_true (by omega)
        obtain ⟨x, hx⟩ : ∃ x, xs[j]? = some x := ⟨_, List.getElem?_eq_getElem (by have := HLL.out; omega)⟩
        obtain ⟨bx, ox, rfl, hxc⟩ := ((HV.out.below HB1.out).below HR.out.below).liesC hx
        have hxb := HXB.out x (List.mem_of_getElem? hx)
        obtain ⟨d, hd⟩ : ∃ d, d = o.size / n := ⟨_, rfl⟩
        have hd1 : d * n ≤ o.size := by rw [hd]; exact Nat.div_mul_le_self _ _
        have hd2 : d ≤ 2000 := by have := Nat.div_le_self o.size n; omega
        have t1 : (o.size : Int).tdiv (n : Int) = (d : Int) := by rw [hd]; rfl
        have t2 : IntKind.i64.wrap (d : Int) = (d : Int) := IntWalk.i64_in _ (by omega)
        have t3 : IntKind.i64.wrap ((d : Int) - 1) = (d : Int) - 1 := IntWalk.i64_in _ (by omega)
        have t4 : ((n : Int) == 0) = false := beq_eq_false_iff_ne.2 (by omega)
        have t7 : ¬ (n = 0) := by omega
        have t5 : (0 : Int) ≤ (j : Int) := by omega
        have t6 : (j : Int) < (L : Int) := by omega
        clear hx hd
        by_cases hin : 0 ≤ x ∧ x ≤ (d : Int) - 1
        · have HIN := Lib.hid (decide_eq_true hin)
          obtain ⟨y, rfl⟩ : ∃ y : Nat, x = y := ⟨x.toNat, by omega⟩
          have HIN0 := Lib.hid hin
          clear hin
          go_wp2_with fail
          go_quiet ((go_at_call 13; exact quiet_sameC (law_inC _ _ _ _)))
          rw [HIN.out]
          go_wp2_with fail
          obtain ⟨c, hc⟩ : ∃ c, c = y * n := ⟨_, rfl⟩
          have hyd : y * n + n ≤ o.size := by
            have hy1 : y + 1 ≤ d := by have := HIN0.out.2; omega
            have := Nat.mul_le_mul_right n hy1
            rw [Nat.succ_mul] at this
            omega
          rw [← hc] at hyd
          have hex : (o.extract c (c + n)).size = n := by rw [ext_size _ _ _ hyd]; omega
          have HBL := Lib.hid (show Blocky o n (s ++ o.extract c (c + n)) (many + 1) by rw [hc]; exact HR.out.blocky.more (by rw [← hc]; exact hyd))
          have HSZ := Lib.hid (show (s ++ o.extract c (c + n)).size = s.size + n by rw [ByteArray.size_append, hex])
          have r1 : IntKind.i64.wrap ((y : Int) * (n : Int)) = (c : Int) := by rw [hc, ← Int.natCast_mul]; exact IntWalk.i64_in _ (by rw [← hc]; omega)
          have r2 : IntKind.i64.wrap ((c : Int) + (n : Int)) = (c : Int) + (n : Int) := IntWalk.i64_in _ (by omega)
          have r3 : ((c : Int) + (n : Int)).toNat = c + n := by omega
          have r4 : (c : Int) + (n : Int) ≤ (o.size : Int) := by omega
          have r5 : (c : Int) ≤ (c : Int) + (n : Int) := by omega
          have r6 : (0 : Int) ≤ (c : Int) := by omega
          have r7 : ¬ (9223372036854775807 < s.size + (min (c + n) o.size - c)) := by omega
          have r8 : (0 : Int) ≤ (c : Int) + (n : Int) := by omega
          clear hc hyd hex
          go_quiet (fail)
          clear r1 r2 r3 r4 r5 r6 r7 r8 t1 t2 t3 t4 t5 t6 t7
          go_wp2_with fail
          go_roundw
          case rel => exact ⟨_, many + 1, j + 1, rfl, by go_num, by go_num, by omega, HBL.out, by rw [HSZ.out]; exact hsn, by rw [HSZ.out]; omega, below_drewN HR.out.below _⟩
          case measure => simp [intOf]; omega
        · have HIN := Lib.hid (decide_eq_false hin)
          clear hin
          go_wp2_with fail
          go_quiet ((go_at_call 13; exact quiet_sameC (law_inC _ _ _ _)))
          rw [HIN.out]
          go_wp2_with fail
          go_roundw
          case rel => exact ⟨s, many, j + 1, rfl, rfl, by go_num, by omega, HR.out.blocky, hs2000, hmany, below_drewN HR.out.below _⟩
          case measure => simp [intOf]; omega
      · have HGO : Hid (True) := Lib.hid trivial
        have hcase : decide (j < L) = false ∨ (decide (j < L) = true ∧ decide ((s.size : Int) + (n : Int) ≤ 2000) = false) := by
          by_cases h : j < L
          · exact .inr ⟨decide_eq_true h, decide_eq_false (by omega)⟩
          · exact .inl (decide_eq_false h)
        have HB3 := Lib.hid (HB1.out.trans (HR.out.below.mono HB1.out.size))
        clear hgo HGO
        rcases hcase with q2 | ⟨q2, q3⟩
        all_goals
          go_wp2_with fail
          refine (make_ok o s n _ h1 hs2000 hn1 hn64).mono ?_
          rintro _ w4 ⟨v, out, rfl, hr, hown, hb⟩
          have HP := Lib.hid (HasPieces.of_own0 hown)
          have HB4 := Lib.hid (HB3.out.trans (hb.mono HB3.out.size))
          obtain ⟨va, cap, rfl⟩ := own_shape hown
          obtain ⟨e1, e2, e3⟩ := own_small hn1 hs2000 hr
          obtain ⟨f1, f2⟩ := hr.blocks_end hn1 HR.out.blocky
          have HO := Lib.hid e3
          have HE := Lib.hid (show ownW out = 0 by rw [e1, f2]; rfl)
          have HF := Lib.hid f1
          rw [f1]
          have q5 : ((many : Int) == (many : Int)) = true := by simp
          rw [f1] at HP
          clear hr hown hb e1 e2 e3 f1 f2
          go_wp2_with fail
          refine (own_any _ out _ HP.out HO.out).mono ?_
          rw [HE.out]
          rintro _ w5 ⟨rfl, hb5⟩
          have HB5 := Lib.hid (HB4.out.trans (hb5.mono HB4.out.size))
          clear hb5
          go_wp2_with fail
          go_ret
          exact ⟨rfl, HB5.out⟩
  · have hcase : ¬ (1 ≤ z ∧ z ≤ 64) ∨ ((1 ≤ z ∧ z ≤ 64) ∧ 2000 < o.size) := by omega
    clear hE
    rcases hcase with h | ⟨h, h'⟩
    · have D := Lib.hid (decide_eq_false h)
      clear h _hz
      go_enter Try.func4, Try.ntmps4
      go_wp2_with fail
      refine (dfact_any _).mono ?_
      rintro _ w1 ⟨rfl, hb⟩
      have HB1 := Lib.hid hb
      clear hb
      go_wp2_with fail
      refine (law_inC _ _ _ _).mono ?_
      rw [D.out]
      rintro _ w2 ⟨rfl, rfl⟩
      go_wp2_with fail
      go_ret
      exact ⟨rfl, HB1.out⟩
    · have D := Lib.hid (decide_eq_true h)
      have q1 : decide ((2000 : Int) < (o.size : Int)) = true := decide_eq_true (by omega)
      clear h _hz
      go_enter Try.func4, Try.ntmps4
      go_wp2_with fail
      refine (dfact_any _).mono ?_
      rintro _ w1 ⟨rfl, hb⟩
      have HB1 := Lib.hid hb
      clear hb
      go_wp2_with fail
      refine (law_inC _ _ _ _).mono ?_
      rw [D.out]
      rintro _ w2 ⟨rfl, rfl⟩
      go_wp2_with fail
      go_ret
      exact ⟨rfl, HB1.out⟩

end Go.Proofs.Ytglcljeeigilnaa
