/- The disk's room, Write, Read. -/
import Derived.Test.YtegibgflhhdddaaDoorLfs2
namespace Go.Proofs.YtegibgflhhdddaaDoor.Lf
open Go.RowKit Ftl

theorem within_anyL (a b c : Int) (w : World) :
    Calls Tryd.prog 38 #[.int .i64 a, .int .i64 b, .int .i64 c] w fun e w' => e = .returned (.bool (decide (b ≤ a ∧ a ≤ c))) ∧ w = w' := by
  by_cases h1 : b ≤ a
  · have q1 : decide (b ≤ a) = true := decide_eq_true h1
    by_cases h2 : a ≤ c
    · have q2 : decide (a ≤ c) = true := decide_eq_true h2
      go_enter Tryd.func38, Tryd.ntmps38
      go_wp2
      go_ret
      exact ⟨by simp [h1, h2], rfl⟩
    · have q2 : decide (a ≤ c) = false := decide_eq_false h2
      go_enter Tryd.func38, Tryd.ntmps38
      go_wp2
      go_ret
      exact ⟨by simp, rfl⟩
  · have q1 : decide (b ≤ a) = false := decide_eq_false h1
    go_enter Tryd.func38, Tryd.ntmps38
    go_wp2
    go_ret
    exact ⟨by simp, rfl⟩

/-- what room tells and does -/
structure Roomed (w w' : World) (B base g : Nat) (s : Fl) (e : Ending) : Prop where
  told : (e = .returned (.bool true) ∧ ¬ s.crowded ∧ DiskIs w' B base g s.place) ∨ (e = .returned (.bool false) ∧ s.crowded ∧ DiskIs w' B base g s)
  below : Below B w w'
  kept : KeptD w w' g base
  grown : w.grownBy w' (some g)
theorem grown_drewN (w : World) (n : Nat) (g : Option Nat) : w.grownBy (w.drewN n) g := ⟨rfl, rfl, rfl, Nat.le_refl _, fun _ _ _ => rfl⟩

set_option maxRecDepth 100000 in
set_option maxHeartbeats 2000000 in
theorem lroom_walk (w : World) (B base g : Nat) (s : Fl) (hs : DiskIs w B base g s) (h4 : ∀ b, (s.row b).length ≤ 4) :
    Calls Tryd.prog 48 #[.pointer (some ⟨g, 0, none⟩)] w fun e w' => Roomed w w' B base g s e := by
  have HS := Lib.hid hs
  have H4 := Lib.hid h4
  have hact := hs.act
  have hc30 := hs.acts
  obtain ⟨va, cap, c0⟩ := hs.len hact
  obtain ⟨n, hn⟩ : ∃ n, n = (s.row s.act).length := ⟨_, rfl⟩
  have hn4 : n ≤ 4 := by rw [hn]; exact h4 _
  obtain ⟨a, ha⟩ : ∃ a, a = s.act := ⟨_, rfl⟩
  rw [← hn] at c0
  rw [← ha] at hc30 c0 hact
  have HN := Lib.hid hn
  have HA := Lib.hid ha
  have hgw : g < w.heap.size := by have := hs.lo; omega
  have ha6 : (a : Int) < 6 := by omega
  have ha0 : (0 : Int) ≤ (a : Int) := by omega
  have hBw : B ≤ w.heap.size := by have := hs.lo; omega
  clear hs h4 hn ha
  go_enter Tryd.func48, Tryd.ntmps48
  by_cases hl : n < 4
  · have q1 : decide ((n : Int) < 4) = true := decide_eq_true (by omega)
    have HPL := Lib.hid (place_room (s := s) (by rw [← HN.out]; exact hl))
    have HNC : Hid (¬ s.crowded) := Lib.hid (fun h => by have h1 : (s.row s.act).length = 4 := h.1; have := HN.out; omega)
    clear hl
    go_wp2_with fail
    go_quiet (fail)
    go_wp2_with fail
    go_ret
    exact ⟨.inl ⟨rfl, HNC.out, by rw [HPL.out]; exact HS.out.drewN _⟩, (below_drewN' w nq).mono hBw, KeptD.of_below g (below_drewN' w nq), grown_drewN w nq _⟩
  · have q1 : decide ((n : Int) < 4) = false := decide_eq_false (by omega)
    have HNL : Hid (¬ (s.row s.act).length < 4) := Lib.hid (by rw [← HN.out]; exact hl)
    clear hl
    go_wp2_with fail
    go_quiet (fail)
    obtain ⟨w1, hw1⟩ : ∃ w1, w1 = w.drewN nq := ⟨_, rfl⟩
    have hs1 : DiskIs w1 B base g s := by rw [hw1]; exact HS.out.drewN _
    have hb1 : Below w.heap.size w w1 := by rw [hw1]; exact below_drewN' w nq
    have hg1 : w.grownBy w1 (some g) := by rw [hw1]; exact grown_drewN w nq _
    have HG1 := Lib.hid hg1
    clear hg1
    rw [← hw1]
    have HS1 := Lib.hid hs1
    have HB1 := Lib.hid hb1
    have hgw1 : g < w1.heap.size := by have := hs1.lo; omega
    have hc1 := hs1.acts
    have hf1 := hs1.free 30
    clear hs1 hb1 hw1 hc30 c0
    go_wp2_with fail
    go_loop [15] (fun ix => ∃ k : Nat, k ≤ 6 ∧ ix = .int .i64 (k : Nat) ∧ ∀ c, c < k → s.row c ≠ []) (fun ix => 6 - (intOf ix).toNat)
    case atStart => exact ⟨0, Nat.zero_le _, rfl, fun c hc => by omega⟩
    case round =>
      obtain ⟨k, hk, rfl, hno⟩ := hrel
      have HNO := Lib.hid hno
      clear hno
      by_cases hlt : k < 6
      · have q2 : decide ((k : Int) < 6) = true := decide_eq_true (by omega)
        obtain ⟨vb, cb, d0⟩ := HS1.out.len hlt
        obtain ⟨m, hm⟩ : ∃ m, m = (s.row k).length := ⟨_, rfl⟩
        rw [← hm] at d0
        have hm4 : m ≤ 4 := by rw [hm]; exact H4.out _
        have hk0 : (0 : Int) ≤ (k : Int) := by omega
        have hk6 : (k : Int) < 6 := by omega
        by_cases he : m = 0
        · have q3 : ((m : Int) == 0) = true := beq_iff_eq.2 (by omega)
          have hole : s.isHole k := ⟨hlt, List.length_eq_zero_iff.1 (by omega), HNO.out⟩
          have HPL := Lib.hid (place_hole HNL.out hole)
          have HNC : Hid (¬ s.crowded) := Lib.hid (fun h => h.2 k hlt hole.2.1)
          have HST := Lib.hid (HS1.out.setAct k hlt)
          clear hm hole he
          go_wp2_with fail
          go_ret
          obtain ⟨h1, h2⟩ := HST.out
          exact ⟨.inl ⟨rfl, HNC.out, by rw [HPL.out]; exact h1⟩, (HB1.out.mono hBw).grown h2 (Nat.le_trans hBw HB1.out.size) (fun j hj => by cases hj; exact HS1.out.lo.1), (KeptD.of_below g HB1.out).trans (KeptD.grown_g h2), grown_more HG1.out h2⟩
        · have q3 : ((m : Int) == 0) = false := beq_eq_false_iff_ne.2 (by omega)
          have HNX : Hid (∀ c, c < k + 1 → s.row c ≠ []) := Lib.hid (fun c hc => by
            by_cases hck : c = k
            · subst hck
              intro e
              rw [e] at hm
              exact he hm
            · exact HNO.out c (by omega))
          clear hm he
          go_wp2_with fail
          go_round
          case rel => exact ⟨k + 1, by omega, by go_num, HNX.out⟩
          case measure => simp [intOf]; omega
      · obtain rfl : k = 6 := by omega
        have q2 : decide (((6 : Nat) : Int) < 6) = false := rfl
        have HCR : Hid (s.crowded) := Lib.hid ⟨by have h1 := HNL.out; have h2 := H4.out s.act; unfold Fl.tight; omega, HNO.out⟩
        go_wp2_with fail
        go_ret
        exact ⟨.inr ⟨rfl, HCR.out, HS1.out⟩, HB1.out.mono hBw, KeptD.of_below g HB1.out, HG1.out⟩

set_option maxHeartbeats 1000000 in
theorem lwrite_no (w : World) (g : Nat) (p v : Int) (h : ¬ ((0 ≤ p ∧ p ≤ 7) ∧ (0 ≤ v ∧ v ≤ 1000))) :
    Calls Tryd.prog 33 #[.pointer (some ⟨g, 0, none⟩), .int .i64 p, .int .i64 v] w fun e w' => e = .returned (.iface 64 (.int .i64 1)) ∧ w = w' := by
  by_cases hp : 0 ≤ p ∧ p ≤ 7
  · have D := Lib.hid (decide_eq_true hp)
    have D2 := Lib.hid (decide_eq_false (fun hv => h ⟨hp, hv⟩))
    clear h hp
    go_enter Tryd.func33, Tryd.ntmps33
    go_wp2_with fail
    refine (within_anyL _ _ _ _).mono ?_
    rw [D.out]
    rintro _ w1 ⟨rfl, rfl⟩
    go_wp2_with fail
    refine (within_anyL _ _ _ _).mono ?_
    rw [D2.out]
    rintro _ w1 ⟨rfl, rfl⟩
    go_wp2_with fail
    go_ret
    exact ⟨rfl, rfl⟩
  · have D := Lib.hid (decide_eq_false hp)
    clear h hp
    go_enter Tryd.func33, Tryd.ntmps33
    go_wp2_with fail
    refine (within_anyL _ _ _ _).mono ?_
    rw [D.out]
    rintro _ w1 ⟨rfl, rfl⟩
    go_wp2_with fail
    go_ret
    exact ⟨rfl, rfl⟩

/-- what Write tells and does, of a page and a value that are in their ranges -/
structure Wrote (w w' : World) (B base g : Nat) (s : Fl) (p : Page) (e : Ending) : Prop where
  told : (e = .returned .nilIface ∧ ¬ s.crowded ∧ DiskIs w' B base g (s.place.down p)) ∨ (e = .returned (.iface 64 (.int .i64 4)) ∧ s.crowded ∧ DiskIs w' B base g s)
  below : Below B w w'
  kept : KeptD w w' g base

theorem place_small {s : Fl} (h4 : ∀ b, (s.row b).length ≤ 4) : ∀ b, (s.place.row b).length ≤ 4 := fun b => by
  have e : s.place.row b = s.row b := by unfold Fl.place; split <;> rfl
  rw [e]
  exact h4 b

set_option maxRecDepth 100000 in
set_option maxHeartbeats 1000000 in
theorem lwrite_walk (w : World) (B base g : Nat) (s : Fl) (p : Nat) (v : Int) (hs : DiskIs w B base g s) (h4 : ∀ b, (s.row b).length ≤ 4) (hp : p < 8) (hv : 0 ≤ v ∧ v ≤ 1000) :
    Calls Tryd.prog 33 #[.pointer (some ⟨g, 0, none⟩), .int .i64 (p : Nat), .int .i64 v] w fun e w' => Wrote w w' B base g s (p, v) e := by
  have D := Lib.hid (decide_eq_true (show (0 : Int) ≤ (p : Int) ∧ (p : Int) ≤ 7 by omega))
  have D2 := Lib.hid (decide_eq_true hv)
  have HS := Lib.hid hs
  have H4 := Lib.hid h4
  clear hs h4 hv
  go_enter Tryd.func33, Tryd.ntmps33
  go_wp2_with fail
  refine (within_anyL _ _ _ _).mono ?_
  rw [D.out]
  rintro _ w1 ⟨rfl, rfl⟩
  go_wp2_with fail
  refine (within_anyL _ _ _ _).mono ?_
  rw [D2.out]
  rintro _ w1 ⟨rfl, rfl⟩
  go_wp2_with fail
  refine (lroom_walk w B base g s HS.out H4.out).mono ?_
  rintro e w2 ⟨⟨rfl, hc, hd⟩ | ⟨rfl, hc, hd⟩, hb, hk, -⟩
  · have HC := Lib.hid hc
    have HD := Lib.hid hd
    have HB := Lib.hid hb
    have HK := Lib.hid hk
    clear hc hd hb hk
    go_wp2_with fail
    refine (ldown_walk w2 B base g s.place (p, v) HD.out hp (by have := place_small H4.out s.place.act; omega)).mono ?_
    rintro _ w3 ⟨rfl, hd3, hb3, hk3⟩
    have HD3 := Lib.hid hd3
    have HB3 := Lib.hid (HB.out.trans hb3)
    have HK3 := Lib.hid (HK.out.trans hk3)
    clear hd3 hb3 hk3
    go_wp2_with fail
    go_ret
    exact ⟨.inl ⟨rfl, HC.out, HD3.out⟩, HB3.out, HK3.out⟩
  · have HC := Lib.hid hc
    have HD := Lib.hid hd
    have HB := Lib.hid hb
    have HK := Lib.hid hk
    clear hc hd hb hk
    go_wp2_with fail
    go_ret
    exact ⟨.inr ⟨rfl, HC.out, HD.out⟩, HB.out, HK.out⟩

set_option maxRecDepth 100000 in
set_option maxHeartbeats 2000000 in
theorem lread_walk (w : World) (B base g : Nat) (s : Fl) (p : Nat) (hs : DiskIs w B base g s) (hok : Dok s) (hp : p < 8) :
    Calls Tryd.prog 34 #[.pointer (some ⟨g, 0, none⟩), .int .i64 (p : Nat)] w fun e w' => e = .returned (.tuple #[.int .i64 (s.val p), .nilIface]) ∧ Below w.heap.size w w' := by
  have D := Lib.hid (decide_eq_true (show (0 : Int) ≤ (p : Int) ∧ (p : Int) ≤ 7 by omega))
  have hp8 : (p : Int) < 8 := by omega
  have hgw : g < w.heap.size := by have := hs.lo; omega
  rcases hok.lies p hp (by simp) with hl | ⟨b, i, v, hb, hl, hr⟩
  · obtain ⟨c1, c2, c3⟩ := hs.locs p _ _ hl
    have HV := Lib.hid (show s.val p = 0 by unfold Fl.val; rw [hl]; rfl)
    rw [show segN (-1) = 0 from rfl] at c1
    rw [show decide ((0 : Int) ≤ -1) = false from rfl] at c3
    simp only [Int.natCast_zero] at c2
    clear hs hok hl
    go_enter Tryd.func34, Tryd.ntmps34
    go_wp2_with fail
    refine (within_anyL _ _ _ _).mono ?_
    rw [D.out]
    rintro _ w1 ⟨rfl, rfl⟩
    go_wp2_with fail
    go_ret2
    exact ⟨by rw [HV.out]; rfl, (Below.refl _ _).alloc (Nat.le_refl _) _⟩
  · obtain ⟨c1, c2, c3⟩ := hs.locs p _ _ hl
    rw [show segN (b : Int) = (b : Int) from if_neg (by omega)] at c1
    rw [show decide ((0 : Int) ≤ (b : Int)) = true from decide_eq_true (by omega)] at c3
    have HV := Lib.hid (show s.val p = v by unfold Fl.val; rw [hl]; simp only [Int.toNat_natCast]; rw [if_neg (by omega), hr]; rfl)
    obtain ⟨V, hV, -⟩ := hs.rows
    obtain ⟨c0, hown⟩ := hV b hb
    have hlen := (List.getElem?_eq_some_iff.1 hr).1
    obtain ⟨r, cap, hva, hbr, hrw⟩ := hown.form (by omega)
    rw [hva] at c0 hown
    have e2 := hown.cellAt (i * 2 + 1) (by omega)
    rw [(pagesV_at hr).2] at e2
    simp only at e2
    have hi4 : i < 4 := by have := hok.small b; omega
    obtain ⟨n, hn⟩ : ∃ n, n = (s.row b).length := ⟨_, rfl⟩
    rw [← hn] at c0 hlen
    have hin : (i : Int) < (n : Int) := by omega
    have hi0 : (0 : Int) ≤ (i : Int) := by omega
    have hb6 : (b : Int) < 6 := by omega
    have hb0 : (0 : Int) ≤ (b : Int) := by omega
    clear hs hok hl hV hown hva hr hn hbr
    go_enter Tryd.func34, Tryd.ntmps34
    go_wp2_with fail
    refine (within_anyL _ _ _ _).mono ?_
    rw [D.out]
    rintro _ w1 ⟨rfl, rfl⟩
    go_wp2_with fail
    go_quiet (fail)
    go_wp2_with fail
    go_ret2
    exact ⟨by rw [HV.out]; rfl, below_drewN ((Below.refl _ _).alloc (Nat.le_refl _) _) _⟩

end Go.Proofs.YtegibgflhhdddaaDoor.Lf
