/- The walk of TopVolume. -/
import Derived.Test.YtgiehdlkgjmojaaDoorTurns
import Derived.Test.YtgiehdlkgjmojaaDoorReadInts
namespace Go.Proofs.YtgiehdlkgjmojaaDoor
open Go.RowKit

theorem top_inS (a b c : Int) (w : World) :
    Calls Tryd.prog 13 #[.int .i64 a, .int .i64 b, .int .i64 c] w fun e w' => e = .returned (.bool (decide (b ≤ a ∧ a ≤ c))) ∧ w = w' := by
  by_cases h1 : b ≤ a
  · have q1 : decide (b ≤ a) = true := decide_eq_true h1
    by_cases h2 : a ≤ c
    · have q2 : decide (a ≤ c) = true := decide_eq_true h2
      go_enter Tryd.func13, Tryd.ntmps13
      go_wp2
      go_ret
      exact ⟨by simp [h1, h2], rfl⟩
    · have q2 : decide (a ≤ c) = false := decide_eq_false h2
      go_enter Tryd.func13, Tryd.ntmps13
      go_wp2
      go_ret
      exact ⟨by simp, rfl⟩
  · have q1 : decide (b ≤ a) = false := decide_eq_false h1
    go_enter Tryd.func13, Tryd.ntmps13
    go_wp2
    go_ret
    exact ⟨by simp, rfl⟩

theorem TakeRel.keepB {s s' : Vol} {n : Nat} {ev : Value} (h : TakeRel s s' n ev) (hs : ∀ k, s.b k = false) : ∀ k, s'.b k = false := by
  rcases h with ⟨-, -, -, rfl⟩ | ⟨-, -, -, rfl⟩ <;> exact hs

theorem free_bits {s : Vol} {x : Nat} (h : ∀ j, j < 32 → s.all.testBit j = x.testBit j) : s.free = 32 - popN 32 x := by
  unfold Vol.free
  rw [popN_congr h]

/-- behind Snap(j) of a volume without snapshots, some blocks were left: N was in use then, c were left -/
structure LeftRel (s : Vol) (j N c : Nat) : Prop where
  b : s.b j = true
  p : s.p j = N
  others : ∀ k, k ≠ j → s.p k = 0
  sub : ∀ i, i < 32 → s.now.testBit i = true → N.testBit i = true
  count : popN 32 s.now + c = popN 32 N

theorem LeftRel.all {s : Vol} {j N c : Nat} (h : LeftRel s j N c) (hj : j < 4) (i : Nat) (hi : i < 32) : s.all.testBit i = N.testBit i := by
  have hs := h.sub i hi
  have hp := h.p
  have ho := h.others
  rw [all_bit]
  rcases j with _ | _ | _ | _ | j
  · rw [hp, ho 1 (by omega), ho 2 (by omega), ho 3 (by omega)]; simp; exact fun h => by simp [hs h]
  · rw [hp, ho 0 (by omega), ho 2 (by omega), ho 3 (by omega)]; simp; exact fun h => by simp [hs h]
  · rw [hp, ho 0 (by omega), ho 1 (by omega), ho 3 (by omega)]; simp; exact fun h => by simp [hs h]
  · rw [hp, ho 0 (by omega), ho 1 (by omega), ho 2 (by omega)]; simp; exact fun h => by simp [hs h]
  · omega

theorem now_all {s : Vol} (h : ∀ k, s.p k = 0) (i : Nat) : s.all.testBit i = s.now.testBit i := by
  rw [all_bit, h 0, h 1, h 2, h 3]; simp

theorem LeftRel.start {s s' : Vol} {j : Nat} (hb : ∀ k, s.b k = false) (hok : s.ok) (e : s' = s.setP j s.now true) : LeftRel s' j s.now 0 := by
  subst e
  have hp : ∀ k, s.p k = 0 := fun k => hok.2.2 k (hb k)
  exact ⟨by simp [Vol.setP], by simp [Vol.setP], fun k hk => by simp [Vol.setP, hk, hp], fun i _ h => h, rfl⟩

theorem LeftRel.leave {s s' : Vol} {j N c : Nat} {i : Int} {ev : Value} (h : LeftRel s j N c) (hr : LeaveRel s s' i ev) :
    (ev = .nilIface ∧ LeftRel s' j N (c + 1)) ∨ (∃ e : Int, ev = .iface 63 (.int .i64 e) ∧ LeftRel s' j N c) := by
  rcases hr with ⟨rfl, k, -, hk, hb, rfl⟩ | ⟨e, rfl, rfl, -⟩
  · left
    refine ⟨rfl, h.b, h.p, h.others, fun i hi hx => ?_, ?_⟩
    · have : (s.now &&& (4294967295 - 2 ^ k)).testBit i = true := hx
      rw [bit_clear _ _ _ hk hi] at this
      simp at this
      exact h.sub i hi this.1
    · have h1 := popN_more (n := 32) (x := s.now &&& (4294967295 - 2 ^ k)) (y := s.now) hk (by rw [bit_clear _ _ _ hk hk]; simp) hb
        (fun j hj hne => by rw [bit_clear _ _ _ hk hj]; simp; exact fun _ e => hne e.symm)
      have h2 := h.count
      show popN 32 (s.now &&& (4294967295 - 2 ^ k)) + (c + 1) = popN 32 N
      omega
  · exact .inr ⟨e, rfl, h⟩

theorem LeftRel.drop {s s' : Vol} {j N c : Nat} {n : Int} {ev : Value} (hj : j < 4) (h : LeftRel s j N c) (hr : DropRel s s' j n ev) :
    ev = .nilIface ∧ n = c ∧ s'.free = s.free + c := by
  rcases hr with ⟨rfl, k, hk, hk4, hb, rfl, hn⟩ | ⟨e, -, -, -, ⟨-, h5⟩ | ⟨-, k, hk, -, hb⟩⟩
  · obtain rfl : j = k := by omega
    have e1 : (s.setP j 0 false).free = 32 - popN 32 s.now := by
      apply free_bits
      intro i hi
      apply now_all (s := s.setP j 0 false)
      intro k
      by_cases e : k = j
      · simp [Vol.setP, e]
      · simp [Vol.setP, e, h.others k e]
    have e2 : s.free = 32 - popN 32 N := free_bits (h.all hj)
    have h1 := h.count
    have h2 := popN_le 32 N
    exact ⟨rfl, by omega, by omega⟩
  · omega
  · obtain rfl : j = k := by omega
    rw [h.b] at hb
    cases hb

structure TopVolRel (W wr : World) (g j N c : Nat) : Prop where
  vol : ∃ s, VolIs wr g s ∧ LeftRel s j N c
  below : Below W.heap.size W wr

theorem f2 : Vol.new.all ≠ 4294967295 ∧ Vol.new.first = 0 ∧ Vol.new.setNow 1 = v1 := ⟨by decide, by decide, rfl⟩

set_option maxRecDepth 100000 in
set_option maxHeartbeats 4000000 in
theorem top_walk (n k : Int) (v2 : Value) (W : World) {xs : List Int} (_hn : -9223372036854775808 ≤ n ∧ n ≤ 9223372036854775807) (_hk : -9223372036854775808 ≤ k ∧ k ≤ 9223372036854775807) (hx0 : IntsArg W v2 xs) (hT : Tabled W) :
    Calls Tryd.prog 3 #[.int .i64 n, .int .i64 k, v2] W fun e w' => e = .returned (.bool true) ∧ Below W.heap.size W w' := by
  have HX := Lib.hid hx0.1
  have HT := Lib.hid hT
  clear hT hx0
  obtain ⟨la, m, lcap, rfl, hm⟩ : ∃ la m lcap, v2 = .slice la m lcap ∧ m = xs.length := by
    obtain ⟨a, cap, h, -⟩ := HX.out
    exact ⟨a, xs.length, cap, h, rfl⟩
  have HM := Lib.hid hm
  clear hm
  go_enter Tryd.func3, Tryd.ntmps3
  go_wp2_with fail
  refine (new_walk _).mono ?_
  rintro _ w1 ⟨rfl, hv, hb⟩
  obtain ⟨g1, hg⟩ : ∃ g, g = W.heap.size := ⟨_, rfl⟩
  rw [← hg] at hv ⊢
  have hgw1 : W.heap.size ≤ g1 := by omega
  have HV1 := Lib.hid hv
  have HB1 := Lib.hid hb
  clear hv hb hg
  go_wp2_with fail
  refine (take_walk g1 _ _ HV1.out (HT.out.below HB1.out) f0.1).mono ?_
  rw [f0.2.2, f0.2.1]
  rintro _ w2 ⟨rfl, hv, hg⟩
  have HV2 := Lib.hid (show VolIs w2 g1 v1 from hv)
  have HB2 := Lib.hid (below_grown_some HB1.out hgw1 hg)
  clear hv hg
  go_wp2_with fail
  refine (free_walk g1 _ _ HV2.out).mono ?_
  rw [f1]
  rintro _ w3 ⟨rfl, d3, rfl⟩
  go_wp2_with fail
  refine (new_walk _).mono ?_
  rintro _ w4 ⟨rfl, hv, hb⟩
  have hgw : W.heap.size ≤ (w2.drewN d3).heap.size := (below_drewN HB2.out d3).size
  obtain ⟨g, hg⟩ : ∃ g, g = (w2.drewN d3).heap.size := ⟨_, rfl⟩
  rw [← hg] at hv hgw ⊢
  have HV4 := Lib.hid hv
  have HB4 := Lib.hid ((below_drewN HB2.out d3).trans (hb.mono (below_drewN HB2.out d3).size))
  clear hv hb hg
  go_wp2_with fail
  go_loopw [11] (fun i wr => ∃ j : Nat, j ≤ 40 ∧ i = .int .i64 j ∧ (∃ s, VolIs wr g s ∧ ∀ k, s.b k = false) ∧ Below W.heap.size W wr) (fun i _ => 40 - (intOf i).toNat)
  case atStart => exact ⟨0, by omega, rfl, ⟨_, HV4.out, fun _ => rfl⟩, HB4.out⟩
  case round =>
    obtain ⟨j, hj, rfl, ⟨s, hv, hs⟩, hb⟩ := hrel
    have HV := Lib.hid hv
    have HS := Lib.hid hs
    have HB := Lib.hid hb
    clear hv hs hb
    by_cases hgo : (j : Int) < n ∧ j < 40
    · obtain ⟨h1, h2⟩ := hgo
      have q1 : decide ((j : Int) < n) = true := decide_eq_true h1
      have q2 : decide ((j : Int) < 40) = true := decide_eq_true (by omega)
      go_wp2_with fail
      refine (take_any g s _ HV.out (HT.out.below HB.out)).mono ?_
      rintro _ w5 ⟨n5, ev, s', rfl, hrel', hv5, hg5⟩
      have HS5 := Lib.hid (hrel'.keepB HS.out)
      have HV5 := Lib.hid hv5
      have HB5 := Lib.hid (below_grown_some HB.out hgw hg5)
      clear hv5 hg5 hrel'
      go_wp2_with fail
      go_roundw
      case rel => exact ⟨j + 1, by omega, by go_num, ⟨_, HV5.out, HS5.out⟩, HB5.out⟩
      case measure => simp [intOf]; omega
    · have hcase : decide ((j : Int) < n) = false ∨ (decide ((j : Int) < n) = true ∧ decide ((j : Int) < 40) = false) := by
        by_cases h : (j : Int) < n
        · exact .inr ⟨decide_eq_true h, decide_eq_false (by omega)⟩
        · exact .inl (decide_eq_false h)
      clear hgo
      obtain ⟨N, hN⟩ : ∃ N, N = s.now := ⟨_, rfl⟩
      have hfree : s.free = 32 - popN 32 N := free_bits fun i _ => by rw [hN]; exact now_all (fun k => HV.out.ok.2.2 k (HS.out k)) i
      have HNN := Lib.hid hN
      have hpl := popN_le 32 N
      obtain ⟨P, hP⟩ : ∃ P, P = popN 32 N := ⟨_, rfl⟩
      rw [← hP] at hfree hpl
      have HP := Lib.hid hP
      have HF := Lib.hid hfree
      clear hN hfree hP
      rcases hcase with q1 | ⟨q1, q2⟩
      all_goals
        go_wp2_with fail
        refine (free_walk g s _ HV.out).mono ?_
        rw [HF.out]
        obtain ⟨was, hwas⟩ : ∃ was, was = 32 - P := ⟨_, rfl⟩
        rw [← hwas]
        have hws : was ≤ 32 := by omega
        have HWAS := Lib.hid hwas
        clear hwas
        rintro _ w5 ⟨rfl, d5, rfl⟩
        go_wp2_with fail
        refine (snap_any g s k _ (HV.out.drewN d5)).mono ?_
        rintro _ w6 ⟨ev, s6, rfl, hs6, hv6, hg6⟩
        have HV6 := Lib.hid hv6
        have HB6 := Lib.hid (below_grown_some (below_drewN HB.out d5) hgw hg6)
        clear hv6 hg6
        have hcase : (∃ kk : Nat, k = kk ∧ kk < 4 ∧ ev = .nilIface ∧ LeftRel s6 kk N 0) ∨ (∃ c : Int, ev = .iface 63 (.int .i64 c) ∧ ¬ (0 ≤ k ∧ k ≤ 3)) := by
          rcases hs6 with ⟨h, kk, hk, hj, -, h2⟩ | ⟨c, h, -, ⟨-, h5⟩ | ⟨-, kk, hk, hj, hb⟩⟩
          · exact .inl ⟨kk, hk, hj, h, HNN.out ▸ LeftRel.start HS.out HV.out.ok h2⟩
          · exact .inr ⟨c, h, h5⟩
          · rw [HS.out kk] at hb
            cases hb
        clear hs6
        rcases hcase with ⟨kk, rfl, hk4, rfl, hL⟩ | ⟨c, rfl, hbad⟩
        · have HL := Lib.hid hL
          have HF6 := Lib.hid (free_bits (hL.all hk4))
          clear hL
          go_wp2_with fail
          refine (free_walk g s6 _ HV6.out).mono ?_
          rw [HF6.out, ← HP.out, ← HWAS.out]
          rintro _ w7 ⟨rfl, d7, rfl⟩
          go_wp2_with fail
          clear hpl
          have hW7 := Lib.hid (⟨⟨_, HV6.out.drewN d7, HL.out⟩, below_drewN HB6.out d7⟩ : TopVolRel W (w6.drewN d7) g kk N 0)
          go_loopw [13, 14] (fun c i wr => ∃ j c' : Nat, j ≤ m ∧ j ≤ 40 ∧ c' ≤ j ∧ i = .int .i64 j ∧ c = .int .i64 c' ∧ TopVolRel W wr g kk N c') (fun _ i _ => 40 - (intOf i).toNat)
          case atStart => exact ⟨0, 0, by omega, by omega, by omega, rfl, rfl, hW7.out⟩
          case round =>
            obtain ⟨j2, c, hj2, hj40, hc, rfl, rfl, ⟨s8, hv8, hl8⟩, hb8⟩ := hrel
            have HV8 := Lib.hid hv8
            have HL8 := Lib.hid hl8
            have HB8 := Lib.hid hb8
            clear hv8 hl8 hb8
            by_cases hgo : j2 < m ∧ j2 < 40
            · obtain ⟨h1, h2⟩ := hgo
              have q3 : decide (j2 < m) = true := decide_eq_true h1
              have q4 : decide ((j2 : Int) < 40) = true := decide_eq_true (by omega)
              obtain ⟨x, hx⟩ : ∃ x, xs[j2]? = some x := ⟨_, List.getElem?_eq_getElem (by have := HM.out; omega)⟩
              have hlies : ∃ b off, la = some ⟨b, off, none⟩ ∧ wr.cell? ⟨b, off + j2, none⟩ = some (.int .i64 x) := by
                obtain ⟨a', cap', h1, -, -, h4⟩ := HX.out.below HB8.out
                cases h1
                obtain ⟨b, off, h5, -, h6⟩ := h4 (Nat.lt_of_le_of_lt (Nat.zero_le _) (List.getElem?_eq_some_iff.1 hx).1)
                exact ⟨b, off, h5, h6 j2 x hx⟩
              obtain ⟨b, off, rfl, hxc⟩ := hlies
              clear hx
              go_wp2_with fail
              refine (leave_any g s8 x _ HV8.out).mono ?_
              rintro _ w9 ⟨ev, s9, rfl, hrel', hv9, hg9⟩
              have HV9 := Lib.hid hv9
              have HB9 := Lib.hid (below_grown_some HB8.out hgw hg9)
              have hcase := HL8.out.leave hrel'
              clear hv9 hg9 hrel' hxc
              rcases hcase with ⟨rfl, hl9⟩ | ⟨e9, rfl, hl9⟩
              · have HL9 := Lib.hid hl9
                clear hl9
                go_wp2_with fail
                go_roundw
                case rel => exact ⟨j2 + 1, c + 1, by omega, by omega, by omega, by go_num, by go_num, ⟨_, HV9.out, HL9.out⟩, HB9.out⟩
                case measure => simp [intOf]; omega
              · have HL9 := Lib.hid hl9
                clear hl9
                go_wp2_with fail
                go_roundw
                case rel => exact ⟨j2 + 1, c, by omega, by omega, by omega, by go_num, rfl, ⟨_, HV9.out, HL9.out⟩, HB9.out⟩
                case measure => simp [intOf]; omega
            · have hcase : decide (j2 < m) = false ∨ (decide (j2 < m) = true ∧ decide ((j2 : Int) < 40) = false) := by
                by_cases h : j2 < m
                · exact .inr ⟨decide_eq_true h, decide_eq_false (by omega)⟩
                · exact .inl (decide_eq_false h)
              have hF8 := free_bits (HL8.out.all hk4)
              have hwas := HWAS.out
              rw [← HP.out, ← hwas] at hF8
              have HF8 := Lib.hid hF8
              have hcnt := HL8.out.count
              rw [← HP.out] at hcnt
              have hlen := bits_length s8.now 32
              obtain ⟨p8, hp8⟩ : ∃ p8, p8 = popN 32 s8.now := ⟨_, rfl⟩
              rw [← hp8] at hcnt hlen
              have HLEN := Lib.hid (show (bitsOf s8.now).length = p8 from hlen)
              have hP32 := popN_le 32 N
              rw [← HP.out] at hP32
              have hp8e : p8 = 32 - was - c := by omega
              have hsum : c + was ≤ 32 := by omega
              have HP8 := Lib.hid hp8e
              clear hgo hF8 hcnt hlen hp8 hP32 hp8e hwas
              rcases hcase with q3 | ⟨q3, q4⟩
              all_goals
                go_wp2_with fail
                refine (free_walk g s8 _ HV8.out).mono ?_
                rw [HF8.out]
                rintro _ w9 ⟨rfl, d9, rfl⟩
                go_wp2_with fail
                refine (now_walk g s8 _ (HV8.out.drewN d9)).mono ?_
                rintro _ w10 ⟨⟨u, rfl, hu, -⟩, hb10⟩
                obtain ⟨ua, ucap, rfl, -⟩ := hu
                rw [HLEN.out]
                have HV10 := Lib.hid ((HV8.out.drewN d9).below hb10)
                have HB10 := Lib.hid ((below_drewN HB8.out d9).trans (hb10.mono (below_drewN HB8.out d9).size))
                clear hb10
                have q5 : ((p8 : Int) == 32 - (was : Int) - (c : Int)) = true := beq_iff_eq.2 (by have := HP8.out; omega)
                go_wp2_with fail
                refine (drop_any g s8 kk _ HV10.out).mono ?_
                rintro _ w11 ⟨n11, ev, s11, rfl, hd, hv11, hg11⟩
                obtain ⟨rfl, rfl, hf11⟩ := HL8.out.drop hk4 hd
                rw [HF8.out] at hf11
                have HF11 := Lib.hid hf11
                have HV11 := Lib.hid hv11
                have HB11 := Lib.hid (below_grown_some HB10.out hgw hg11)
                clear hf11 hv11 hg11 hd q5
                go_wp2_with fail
                refine (free_walk g s11 _ HV11.out).mono ?_
                rw [HF11.out]
                obtain ⟨f11, hf11⟩ : ∃ f11, f11 = was + c := ⟨_, rfl⟩
                rw [← hf11]
                have q6 : ((f11 : Int) == (was : Int) + (c : Int)) = true := beq_iff_eq.2 (by omega)
                clear hf11
                rintro _ w12 ⟨rfl, d12, rfl⟩
                go_wp2_with fail
                go_ret
                exact ⟨rfl, below_drewN HB11.out d12⟩
        · have D := Lib.hid (decide_eq_false hbad)
          clear hbad
          go_wp2_with fail
          refine (top_inS _ _ _ _).mono ?_
          rw [D.out]
          rintro _ w7 ⟨rfl, rfl⟩
          go_wp2_with fail
          go_ret
          exact ⟨rfl, HB6.out⟩

end Go.Proofs.YtgiehdlkgjmojaaDoor
