/- The walk of DedupPlays. -/
import Derived.Test.YtaoekllajnnbjaaDoorDedup12
import Derived.Deep.DeepCutAuto
import Derived.Deep.CutBlock
import Derived.StillTailTactics
namespace Go.Proofs.YtaoekllajnnbjaaDoor
open Go.RowKit

/-- a round is at its sums -/
def PlayMid (W w : World) (base g gx k : Nat) : Prop := ∃ v1 v2 L N s, PlayIs W w base g gx (k + 1) v1 v2 L N s

/-- a text that is kept is dropped once -/
theorem drop_one (w : World) (B base g : Nat) (s : St) (i k : Nat) (t : ByteArray) (hs : StoreIs w B base g s) (htop : s.top < 1000000) (hk : 0 < k) (hi : s.C[i]? = some (t, k)) :
    Calls Tryd.prog 8 #[.pointer (some ⟨g, 0, none⟩), .int .i64 (i : Nat)] w fun e w' => e = .returned .nilIface ∧ (∃ u M, (0 < k - 1 → u = t) ∧ StoreIs w' B base g ⟨s.C.set i (u, k - 1), M, s.c, s.top⟩) ∧ Below B w w' ∧ Kept w w' g := by
  obtain ⟨m, rfl⟩ : ∃ m, k = m + 1 := ⟨k - 1, by omega⟩
  rcases Nat.eq_zero_or_pos m with rfl | hm
  · refine (drop_last w B base g s i t hs hi).mono ?_
    rintro e w' ⟨rfl, ⟨j, b, -, h⟩, h2, h3⟩
    exact ⟨rfl, ⟨ByteArray.empty, _, by omega, h⟩, h2, h3⟩
  · refine (drop_more w B base g s i m t hs htop hm hi).mono ?_
    rintro e w' ⟨rfl, h, h2, h3⟩
    exact ⟨rfl, ⟨t, _, fun _ => rfl, h⟩, h2, h3⟩

theorem PutRel.top {s s' : St} {t : ByteArray} {n : Int} {fresh : Bool} {ev : Value} (h : PutRel s s' t n fresh ev) : s'.top ≤ s.top + 1 := by
  cases h with
  | long _ h => rw [h]; omega
  | had _ _ _ _ _ h => rw [h]; exact Nat.le_refl _
  | full _ _ _ h => rw [h]; omega
  | new _ _ _ h => rw [h]; exact Nat.le_refl _

theorem PlayIs.mid {W w : World} {base g gx k : Nat} {v1 v2 : Value} {L : List ByteArray} {N : List Int} {s : St} (h : PlayIs W w base g gx k v1 v2 L N s) : PlayMid W w base g gx k := ⟨v1, v2, L, N, s, h.up (Nat.le_succ k)⟩
theorem PlayMid.later {W w w' : World} {base g gx k : Nat} (h : PlayMid W w base g gx k) (hb : Below w.heap.size w w') : PlayMid W w' base g gx k := by
  obtain ⟨v1, v2, L, N, s, h⟩ := h
  exact ⟨v1, v2, L, N, s, h.later hb⟩

theorem err_ok (c : Int) (w : World) (hg : Handled w) : Calls Tryd.prog 7 #[errV c, .int .i64 c] w fun e w' => e = .returned (.bool true) ∧ Below w.heap.size w w' :=
  (error_any c c w hg).mono fun e w' ⟨h1, h2⟩ => ⟨by rw [h1]; simp, h2⟩

set_option maxRecDepth 100000 in
set_option maxHeartbeats 8000000 in
theorem dplays_walk (v0 : Value) (ask : Int) (W : World) {ts : List ByteArray} (hv0 : StrsArg W v0 ts) (hask : -9223372036854775808 ≤ ask ∧ ask ≤ 9223372036854775807) (hH : Handled W) :
    Calls Tryd.prog 3 #[v0, .int .i64 ask] W fun e w' => e = .returned (.bool true) ∧ Below W.heap.size W w' := by
  have HV := Lib.hid hv0.1
  have HSZ := Lib.hid hv0.2
  have HH := Lib.hid hH
  clear hv0 hH
  obtain ⟨la, n, lcap, rfl, hn, hnc, hcm⟩ : ∃ la n lcap, v0 = .slice la n lcap ∧ n = ts.length ∧ n ≤ lcap ∧ lcap ≤ maxLen := by
    obtain ⟨a, cap, h, h1, h2, -⟩ := HV.out
    exact ⟨a, ts.length, cap, h, rfl, h1, h2⟩
  have hnm : n ≤ 9223372036854775807 := by unfold maxLen at hcm; omega
  have HN := Lib.hid hn
  clear hn hnc hcm
  go_enter Tryd.func3, Tryd.ntmps3
  go_wp2_with fail
  refine (dnew_walk _).mono ?_
  rintro _ w3 ⟨g, base, rfl, hs, hb⟩
  have HS3 := Lib.hid hs
  have HB3 := Lib.hid hb
  have hbz := hs.lo.2.2
  have hgb := hs.lo.2.1
  have hWg := hs.lo.1
  have hWz := hb.size
  obtain ⟨gx, hgx⟩ : ∃ gx, gx = w3.heap.size := ⟨_, rfl⟩
  have HGX := Lib.hid hgx
  clear hs hb
  go_wp2_with fail
  rw [← hgx]
  clear hgx
  go_loopw [7] (fun ix wr => ∃ (k : Nat) (v1 v2 : Value) (L : List ByteArray) (N : List Int) (s : St), k ≤ 60 ∧ ix = .int .i64 k ∧ PlayIs W wr base g gx k v1 v2 L N s) (fun ix _ => 60 - (intOf ix).toNat)
  case atStart =>
    exact ⟨0, .slice none 0 0, .slice none 0 0, [], [], St.new, by omega, rfl, ⟨HS3.out.below ((Below.refl _ w3).alloc (Nat.le_refl _) _), Nat.le_refl _, Mir.new, ⟨by rw [HGX.out]; exact heap_alloc_new _ _, ⟨World.ownsRow_nil .., fun _ => rfl⟩, ⟨World.ownsRow_nil .., fun _ => rfl⟩⟩, by rw [HGX.out]; exact hbz, HB3.out.trans (((Below.refl _ w3).alloc (Nat.le_refl _) _).mono hWz)⟩⟩
  case round =>
    obtain ⟨k, v1, v2, L, N, s, hk60, rfl, hp⟩ := hrel
    have HP := Lib.hid hp
    have hlt := hp.x.lt
    have hlo := hp.lo
    obtain ⟨y0, y1, y2, y3⟩ := hp.x.cells
    obtain ⟨a1, c1, ev1⟩ := hp.x.strs.shape
    obtain ⟨a2, c2, ev2⟩ := hp.x.ints.shape
    obtain ⟨m, hm⟩ : ∃ m, m = L.length := ⟨_, rfl⟩
    rw [hp.len.1, ← hm] at ev2
    rw [← hm] at ev1
    subst ev1 ev2
    have HM := Lib.hid hm
    have hm40 := hp.len.2
    rw [← hm] at hm40
    clear hm hp
    by_cases hend : k < n ∧ k < 60
    · have q1 : decide (k < n) = true := decide_eq_true hend.1
      have q2 : decide ((k : Int) < 60) = true := decide_eq_true (by omega)
      obtain ⟨t, htt⟩ : ∃ t, ts[k]? = some t := ⟨_, List.getElem?_eq_getElem (by have := HN.out; omega)⟩
      obtain ⟨b0, o0, rfl, hc0⟩ := (HV.out.below HP.out.below).liesD htt
      have ht0 : t.size ≤ 9223372036854775807 := by have := HSZ.out t (List.mem_of_getElem? htt); omega
      have HNIL := Lib.hid (show L = [] → (Value.slice a1 m c1) = .slice none 0 0 ∧ (Value.slice a2 m c2) = .slice none 0 0 from fun h => ⟨HP.out.x.r1.2 h, HP.out.x.r2.2 (List.length_eq_zero_iff.1 (by rw [HP.out.len.1, h]; rfl))⟩)
      clear htt
      go_upto_region 7 with fail
      go_cut [50] (fun s50 wx => (∃ q : Bool, s50 = .bool q ∧ (q = true → t.size = 2)) ∧ wx = wr)
      case first =>
        by_cases hz2 : t.size = 2
        · have q3 : ((t.size : Int) == 2) = true := beq_iff_eq.2 (by omega)
          have hz0 : 0 < t.size := by omega
          have HZ2 := Lib.hid hz2
          clear hz2
          by_cases h45 : (((t[0]'hz0).toNat : Int) == 45) = true
          · go_wp2_with fail
            go_meet
            exact ⟨⟨true, rfl, fun _ => HZ2.out⟩, rfl⟩
          · rw [Bool.not_eq_true] at h45
            go_wp2_with fail
            go_meet
            exact ⟨⟨false, rfl, fun _ => HZ2.out⟩, rfl⟩
        · have q3 : ((t.size : Int) == 2) = false := beq_eq_false_iff_ne.2 (by omega)
          go_wp2_with fail
          go_meet
          exact ⟨⟨false, rfl, fun h => by cases h⟩, rfl⟩
      case rest =>
        obtain ⟨⟨q, rfl, hq⟩, hw⟩ := hcut
        subst hw
        have HQ2 := Lib.hid hq
        clear hq
        go_upto_if 50 with fail
        go_cut [] (fun wx => PlayMid W wx base g gx k)
        case first =>
          cases q with
          | true =>
            have hz2 := HQ2.out rfl
            have hz1 : 1 < t.size := by omega
            clear hz2
            have hby := (t[1]'hz1).toNat_lt
            obtain ⟨id, hidd⟩ : ∃ id : Int, id = ((t[1]'hz1).toNat : Int) - 1 := ⟨_, rfl⟩
            have hidb : -1 ≤ id ∧ id ≤ 255 := by omega
            have HID := Lib.hid hidd
            clear hidd
            go_upto_region 9 with fail
            rw [← HID.out]
            clear HID hby
            go_wp2_with fail
            refine (wrong_walk _ _ L N id _ HP.out.x.strs HP.out.x.ints HP.out.len.1 HP.out.len.2 (by omega)).mono ?_
            rintro _ w4 ⟨⟨c, rfl, hc⟩, hb4⟩
            have HP4 := Lib.hid (HP.out.later hb4)
            have HC := Lib.hid (HP.out.mir.wrong hc)
            clear hc hb4
            rcases HC.out with ⟨hno, hc0'⟩ | ⟨rfl, j, u, qn, rfl, hq0, hcj, hnj, hlj⟩
            · have q5 : (c == 0) = false := beq_eq_false_iff_ne.2 hc0'
              have HNO := Lib.hid hno
              clear hno
              go_wp2_with fail
              refine (drop_no w4 W.heap.size base g s id c (by omega) HP4.out.store HNO.out).mono ?_
              rintro _ w5 ⟨rfl, rfl⟩
              go_wp2_with fail
              refine (error_same c w4 (HH.out.below HP4.out.below)).mono ?_
              rintro _ w9 ⟨rfl, hb9⟩
              have HP9 := Lib.hid (HP4.out.later hb9).mid
              clear hb9
              go_wp2_with fail
              go_meet
              exact HP9.out
            · obtain ⟨b2, o2, rfl, hcn⟩ := HP4.out.x.ints.liesD hnj
              obtain ⟨z0, z1, z2, z3⟩ := HP4.out.x.cells
              have hjN : j < N.length := (List.getElem?_eq_some_iff.1 hnj).1
              have hjm : j < m := by have h1 := HP.out.len.1; have h2 := HM.out; omega
              have hqs : qn ≤ 1000000 := by have h := (HP4.out.store.ok.small _ (List.mem_of_getElem? hcj)).2; have h2 := HP4.out.top; simp only at h; omega
              have hwr : IntKind.i64.wrap ((qn : Int) - 1) = (qn : Int) - 1 := IntWalk.i64_in _ (by omega)
              have HCJ := Lib.hid hcj
              have HNJ := Lib.hid hnj
              have HLJ := Lib.hid hlj
              have hgx4 := HP4.out.x.lt
              clear hcj hnj hlj
              go_wp2_with fail
              go_still_tail 9, (by kernel_rfl)
              change wpList _ _ _ _ _ w4.drew
              go_wp2_with fail
              have HBD := Lib.hid ((Below.refl w4.heap.size w4).drew)
              refine (set_anyD _ N j ((qn : Int) - 1) w4.drew (HP4.out.x.ints.below HBD.out) hjN (by have h := HP4.out.len; omega)).mono ?_
              rintro _ w6 ⟨⟨v2', rfl, ho6⟩, hb6⟩
              obtain ⟨g6, c6, ev6, -⟩ := own_some ho6 (by omega)
              subst ev6
              have hz6 := hb6.size
              simp only [World.size_drew] at hz6
              have hb46 : Below w4.heap.size w4 w6 := HBD.out.trans hb6
              have K1 : w6.cell? ⟨gx, 1, none⟩ = some (.slice (some ⟨b2, o2, none⟩) m c2) := by rw [hb46.cell (p := ⟨gx, 1, none⟩) hgx4]; exact z1
              have J1 : w6.frozen? ⟨gx, 1, none⟩ = false := by rw [hb46.frozen (p := ⟨gx, 1, none⟩) hgx4]; exact z3
              have HB46 := Lib.hid hb46
              have HX6 := Lib.hid (HP4.out.x.count HB46.out (N' := N.set j ((qn : Int) - 1)) (b := w4.heap.size) ⟨by rw [List.length_set]; exact ho6, fun e => by have := congrArg List.length e; simp at this; rw [this] at hjN; exact absurd hjN (by simp)⟩ (by omega))
              have HS6 := Lib.hid ((HP4.out.store.below HB46.out).setX (o := 1) (HP4.out.x.later HB46.out).x (by decide) hlo (.slice (some ⟨g6, 0, none⟩) N.length c6))
              have HBW6 := Lib.hid ((HP4.out.below.trans (HB46.out.mono HP4.out.below.size)).setCell (p := ⟨gx, 1, none⟩) (by simp only; omega) (.slice (some ⟨g6, 0, none⟩) N.length c6))
              clear ho6 hb6 hb46
              go_wp2_with fail
              refine (drop_one _ W.heap.size base g s j qn u HS6.out (by have := HP4.out.top; omega) hq0 HCJ.out).mono ?_
              rintro _ w8 ⟨rfl, ⟨u', M', hu', hs8⟩, hb8, hk8⟩
              have HP8 : Hid (PlayMid W w8 base g gx k) := Lib.hid ⟨_, _, L, N.set j ((qn : Int) - 1), _, hs8, by have := HP4.out.top; simp only; omega, by
                have h := HP4.out.mir.count (m := qn - 1) (t := u') HCJ.out (fun h => by rw [hu' h]; exact HLJ.out) M' s.c s.top
                rw [show ((qn - 1 : Nat) : Int) = (qn : Int) - 1 by omega] at h
                exact h, HX6.out.kept hk8 (by omega), hlo, HBW6.out.trans hb8⟩
              clear hs8 hb8 hk8 hu'
              go_wp2_with fail
              refine (error_none _).mono ?_
              rintro _ w9 ⟨rfl, rfl⟩
              go_wp2_with fail
              go_meet
              exact HP8.out
          | false =>
            go_wp2_with fail
            refine (putref_walk _ _ L N t _ HP.out.x.strs HP.out.x.ints HNIL.out HP.out.len.1 HP.out.len.2 (fun q hq => (HP.out.small (by omega) q hq).2) ht0).mono ?_
            rintro _ w4 ⟨⟨v1', v2', L', N', n1, f1, c, rfl, hrel1, hr1, hr2⟩, hb4⟩
            have HREL := Lib.hid hrel1
            have hx4 := HP.out.x.both hb4 hr1 hr2 (b := wc.heap.size) (by omega)
            obtain ⟨p1, d1, ep1⟩ := hx4.strs.shape
            obtain ⟨p2, d2, ep2⟩ := hx4.ints.shape
            have hL' := hrel1
            clear hL'
            clear hx4
            subst ep1 ep2
            have HR1 := Lib.hid hr1
            have HR2 := Lib.hid hr2
            have HP4 := Lib.hid (HP.out.later hb4)
            have HB4 := Lib.hid hb4
            have hb4z := hb4.size
            obtain ⟨z0, z1, z2, z3⟩ := HP4.out.x.cells
            have hgx4 := HP4.out.x.lt
            clear hb4 hr1 hr2 hrel1
            go_wp2_with fail
            have hx4 := HP.out.x.both HB4.out HR1.out HR2.out (b := wc.heap.size) (by omega)
            have hs4 := (HP4.out.store.setX (o := 0) HP4.out.x.x (by decide) hlo (.slice p1 L'.length d1)).setX (gx := gx) (o := 1) (by rw [heap_setCell_same _ _ _ _ _ _ HP4.out.x.x]) (by decide) hlo (.slice p2 N'.length d2)
            have hbw4 := (HP4.out.below.setCell (p := ⟨gx, 0, none⟩) (by simp only; omega) (.slice p1 L'.length d1)).setCell (p := ⟨gx, 1, none⟩) (by simp only; omega) (.slice p2 N'.length d2)
            obtain ⟨w4b, hw4b⟩ : ∃ x, x = ((w4.setCell ⟨gx, 0, none⟩ (.slice p1 L'.length d1)).setCell ⟨gx, 1, none⟩ (.slice p2 N'.length d2)) := ⟨_, rfl⟩
            rw [← hw4b] at hx4 hs4 hbw4 ⊢
            have hal := (Below.refl w4b.heap.size w4b).alloc (Nat.le_refl _) (.cells #[.slice p1 L'.length d1, .slice p2 N'.length d2] 27)
            have hx5 := hx4.later hal
            have hs5 := hs4.below hal
            have hbw5 := hbw4.trans (hal.mono hbw4.size)
            clear hx4 hs4 hbw4 hal hw4b
            obtain ⟨w5, hw5⟩ : ∃ x, x = w4b.alloc (.cells #[.slice p1 L'.length d1, .slice p2 N'.length d2] 27) := ⟨_, rfl⟩
            rw [← hw5] at hx5 hs5 hbw5 ⊢
            have HX5 := Lib.hid hx5
            have HBW5 := Lib.hid hbw5
            clear hw5 hx5 hbw5 z0 z1 z2 z3 HR1 HR2 HB4
            refine (put_walk w5 W.heap.size base g s t hs5 ht0 (by have := HP4.out.top; omega)).mono ?_
            rintro _ w8 ⟨n2, f2, ev, s2, rfl, hput, hs8, hb8, hk8⟩
            have HTOP := Lib.hid (hput.top)
            obtain ⟨en, ef, hev, hmir⟩ := HP4.out.mir.put hs5.ok hput HREL.out
            subst en ef
            have HP8 : Hid (PlayMid W w8 base g gx k) := Lib.hid ⟨_, _, L', N', s2, hs8, by have := HP4.out.top; have := HTOP.out; omega, hmir, HX5.out.kept hk8 (by omega), hlo, HBW5.out.trans hb8⟩
            clear hs5 hput hs8 hb8 hk8 hmir HTOP HREL
            rcases hev with ⟨rfl, rfl⟩ | ⟨rfl, rfl⟩
            · go_wp2_with fail
              refine (error_none _).mono ?_
              rintro _ w9 ⟨rfl, rfl⟩
              go_wp2_with fail
              go_meet
              exact HP8.out
            · go_wp2_with fail
              refine (error_same 4 w8 (HH.out.below (by obtain ⟨_, _, _, _, _, h⟩ := HP8.out; exact h.below))).mono ?_
              rintro _ w9 ⟨rfl, hb9⟩
              have HP9 := Lib.hid (HP8.out.later hb9)
              clear hb9
              go_wp2_with fail
              go_meet
              exact HP9.out
        case rest =>
          obtain ⟨V1, V2, L9, N9, s9, hp9⟩ := hcut
          obtain ⟨w9, rfl⟩ : ∃ w9, w9 = wc := ⟨_, rfl⟩
          obtain ⟨z0, z1, z2, z3⟩ := hp9.x.cells
          obtain ⟨a3, c3, e3⟩ := hp9.x.strs.shape
          obtain ⟨a4, c4, e4⟩ := hp9.x.ints.shape
          have hl9 := hp9.len
          obtain ⟨p, hpp⟩ : ∃ p, p = L9.length := ⟨_, rfl⟩
          rw [hl9.1, ← hpp] at e4
          rw [← hpp] at e3
          subst e3 e4
          have hp40 := hl9.2
          rw [← hpp] at hp40
          have HNL := Lib.hid (hl9.1.trans hpp.symm)
          have HQ := Lib.hid hp9
          have HPP := Lib.hid hpp
          clear hp9 hl9 hpp
          go_wp2_with fail
          go_loopw [18, 19, 20] (fun al kp ix wq => ∃ i a b : Nat, i ≤ p ∧ ix = .int .i64 i ∧ al = .int .i64 a ∧ kp = .int .i64 b ∧ a = allTo s9.C i ∧ b = keptTo s9.C i ∧ a ≤ i * 64000000 ∧ b ≤ i * 64 ∧ Below w9.heap.size w9 wq) (fun _ _ ix _ => p - (intOf ix).toNat)
          case atStart => exact ⟨0, 0, 0, by omega, rfl, rfl, rfl, rfl, rfl, by omega, by omega, Below.refl _ _⟩
          case round =>
            obtain ⟨i, a, b, hi, rfl, rfl, rfl, ha, hb, hab, hbb, hbl⟩ := hrel
            have HA := Lib.hid ha
            have HBK := Lib.hid hb
            have HBL := Lib.hid hbl
            have hR := HQ.out.later hbl
            have HR := Lib.hid hR
            obtain ⟨z0, z1, z2, z3⟩ := hR.x.cells
            have htop := hR.top
            clear ha hb hbl
            by_cases hlt9 : i < p
            · have q9 : decide (i < p) = true := decide_eq_true hlt9
              obtain ⟨x, hx⟩ : ∃ x, L9[i]? = some x := ⟨_, List.getElem?_eq_getElem (by have := HPP.out; omega)⟩
              obtain ⟨q, hq⟩ : ∃ q, N9[i]? = some q := ⟨_, List.getElem?_eq_getElem (by have := HNL.out; omega)⟩
              obtain ⟨b1, o1, e1, hc1⟩ := hR.x.strs.liesD hx
              obtain ⟨b2, o2, e2, hc2⟩ := hR.x.ints.liesD hq
              obtain ⟨mm, rfl, hmt, hs1, hs2⟩ := hR.mir.sums hR.store.ok hx hq
              have hx64 := hR.mir.sz x (List.mem_of_getElem? hx)
              subst e1 e2
              have HS1 := Lib.hid hs1
              have HS2 := Lib.hid hs2
              have hpm : mm * x.size ≤ 61 * 64 := Nat.mul_le_mul (by omega) hx64
              obtain ⟨pm, hpme⟩ : ∃ pm, pm = mm * x.size := ⟨_, rfl⟩
              rw [← hpme] at hpm
              have q11 : IntKind.i64.wrap ((mm : Int) * (x.size : Int)) = (pm : Int) := by
                have e1 : (mm : Int) * (x.size : Int) = (pm : Int) := by rw [hpme]; exact (Int.natCast_mul _ _).symm
                rw [e1]
                exact IntWalk.i64_in _ (by omega)
              have HPM := Lib.hid hpme
              clear hs1 hs2 hx hq hR hpme
              by_cases hmm : 0 < mm
              · have q10 : decide ((0 : Int) < (mm : Int)) = true := decide_eq_true (by omega)
                go_wp2_with fail
                go_quiet (fail)
                go_wp2_with fail
                go_roundw
                case rel => exact ⟨i + 1, a + pm, b + x.size, by omega, by go_num, by go_num, by go_num, by rw [HS1.out, HA.out, HPM.out], by rw [HS2.out, HBK.out, if_pos hmm], by omega, by omega, below_drewN HBL.out _⟩
                case measure => simp [intOf]; omega
              · have q10 : decide ((0 : Int) < (mm : Int)) = false := decide_eq_false (by omega)
                go_wp2_with fail
                go_quiet (fail)
                go_wp2_with fail
                go_roundw
                case rel => exact ⟨i + 1, a + pm, b, by omega, by go_num, by go_num, rfl, by rw [HS1.out, HA.out, HPM.out], by rw [HS2.out, HBK.out, if_neg hmm]; rfl, by omega, by omega, below_drewN HBL.out _⟩
                case measure => simp [intOf]; omega
            · obtain rfl : i = p := by omega
              have q9 : decide (i < i) = false := decide_eq_false hlt9
              have hlC : s9.C.length = i := by rw [← hR.mir.len1]; exact HPP.out.symm
              have hsz := sizes_walk wr W.heap.size base g s9 hR.store (by omega)
              rw [hlC, ← HA.out, ← HBK.out] at hsz
              have HSZ9 := Lib.hid hsz
              clear hR hsz hlC
              go_wp2_with fail
              refine HSZ9.out.mono ?_
              rintro _ w10 ⟨rfl, hb10⟩
              have HP10 := Lib.hid (HR.out.later hb10)
              clear hb10
              go_wp2_with fail
              go_roundw
              case rel => exact ⟨k + 1, _, _, _, _, _, by omega, by go_num, HP10.out⟩
              case measure => simp [intOf]; omega
    · by_cases hk1 : k < n
      · have q1 : decide (k < n) = true := decide_eq_true hk1
        have q2 : decide ((k : Int) < 60) = false := decide_eq_false (by omega)
        go_wp2_with fail
        refine (wrong_walk _ _ L N ask wr HP.out.x.strs HP.out.x.ints HP.out.len.1 HP.out.len.2 hask).mono ?_
        rintro _ w4 ⟨⟨c, rfl, hc⟩, hb4⟩
        have HP4 := Lib.hid (HP.out.later hb4)
        have HC := Lib.hid (HP.out.mir.wrong hc)
        clear hc hb4
        rcases HC.out with ⟨hno, hc0'⟩ | ⟨rfl, j, u, qn, rfl, hq0, hcj, hnj, hlj⟩
        · have q5 : (c == 0) = false := beq_eq_false_iff_ne.2 hc0'
          have HNO := Lib.hid hno
          clear hno
          go_wp2_with fail
          refine (Get_no w4 W.heap.size base g s ask c hask HP4.out.store HNO.out).mono ?_
          rintro _ w5 ⟨rfl, rfl⟩
          go_wp2_with fail
          refine (error_same c w4 (HH.out.below HP4.out.below)).mono ?_
          rintro _ w9 ⟨rfl, hb9⟩
          have HB9 := Lib.hid (HP4.out.below.trans (hb9.mono HP4.out.below.size))
          clear hb9
          go_wp2_with fail
          go_ret
          exact ⟨rfl, HB9.out⟩
        · obtain ⟨b1, o1, rfl, hc1⟩ := HP4.out.x.strs.liesD hlj
          obtain ⟨z0, z1, z2, z3⟩ := HP4.out.x.cells
          have hjL : j < L.length := (List.getElem?_eq_some_iff.1 hlj).1
          have hjm : j < m := by have h2 := HM.out; omega
          have HCJ := Lib.hid hcj
          have HNJ := Lib.hid hnj
          have HLJ := Lib.hid hlj
          clear hcj hnj hlj
          go_wp2_with fail
          refine (Get_ok w4 W.heap.size base g s j qn u HP4.out.store HCJ.out hq0).mono ?_
          rintro _ w5 ⟨rfl, rfl⟩
          go_wp2_with fail
          refine (error_none _).mono ?_
          rintro _ w9 ⟨rfl, rfl⟩
          go_wp2_with fail
          go_ret
          exact ⟨rfl, HP4.out.below⟩
      · have q1 : decide (k < n) = false := decide_eq_false hk1
        go_wp2_with fail
        refine (wrong_walk _ _ L N ask wr HP.out.x.strs HP.out.x.ints HP.out.len.1 HP.out.len.2 hask).mono ?_
        rintro _ w4 ⟨⟨c, rfl, hc⟩, hb4⟩
        have HP4 := Lib.hid (HP.out.later hb4)
        have HC := Lib.hid (HP.out.mir.wrong hc)
        clear hc hb4
        rcases HC.out with ⟨hno, hc0'⟩ | ⟨rfl, j, u, qn, rfl, hq0, hcj, hnj, hlj⟩
        · have q5 : (c == 0) = false := beq_eq_false_iff_ne.2 hc0'
          have HNO := Lib.hid hno
          clear hno
          go_wp2_with fail
          refine (Get_no w4 W.heap.size base g s ask c hask HP4.out.store HNO.out).mono ?_
          rintro _ w5 ⟨rfl, rfl⟩
          go_wp2_with fail
          refine (error_same c w4 (HH.out.below HP4.out.below)).mono ?_
          rintro _ w9 ⟨rfl, hb9⟩
          have HB9 := Lib.hid (HP4.out.below.trans (hb9.mono HP4.out.below.size))
          clear hb9
          go_wp2_with fail
          go_ret
          exact ⟨rfl, HB9.out⟩
        · obtain ⟨b1, o1, rfl, hc1⟩ := HP4.out.x.strs.liesD hlj
          obtain ⟨z0, z1, z2, z3⟩ := HP4.out.x.cells
          have hjL : j < L.length := (List.getElem?_eq_some_iff.1 hlj).1
          have hjm : j < m := by have h2 := HM.out; omega
          have HCJ := Lib.hid hcj
          have HNJ := Lib.hid hnj
          have HLJ := Lib.hid hlj
          clear hcj hnj hlj
          go_wp2_with fail
          refine (Get_ok w4 W.heap.size base g s j qn u HP4.out.store HCJ.out hq0).mono ?_
          rintro _ w5 ⟨rfl, rfl⟩
          go_wp2_with fail
          refine (error_none _).mono ?_
          rintro _ w9 ⟨rfl, rfl⟩
          go_wp2_with fail
          go_ret
          exact ⟨rfl, HP4.out.below⟩

end Go.Proofs.YtaoekllajnnbjaaDoor
