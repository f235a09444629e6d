/- The reference's flash: Last, Live, down. -/
import Derived.Test.YtegibgflhhdddaaDoorRows0
import Derived.Test.YtegibgflhhdddaaDoorFlRef
import Derived.Deep.RegionHeld3
import Derived.Deep.RegionLaw
import Derived.StillTailTactics
namespace Go.Proofs.YtegibgflhhdddaaDoor
open Go.RowKit Ftl

def frV (v1 v2 v3 v4 v5 : Value) (act : Nat) : Value := .agg #[v1, v2, v3, v4, v5, .int .i64 (act : Nat)]
def frO (v1 v2 v3 v4 v5 : Value) (act : Nat) : Obj := .cells #[v1, v2, v3, v4, v5, .int .i64 (act : Nat)] 27 (0, 0)

structure FRIs (z : Nat) (w : World) (v1 v2 v3 v4 v5 : Value) (r : RF) : Prop where
  r1 : IV z w v1 (r.L.map fun e => e.1)
  r2 : IV z w v2 (r.L.map fun e => (e.2.1 : Int))
  r3 : IV z w v3 (r.L.map fun e => e.2.2)
  r4 : IV z w v4 (natsI r.many)
  r5 : IV z w v5 (natsI r.er)
  n1 : r.L = [] → v1 = .slice none 0 0
  n2 : r.L = [] → v2 = .slice none 0 0
  n3 : r.L = [] → v3 = .slice none 0 0
variable {z : Nat}
theorem FRIs.below {w w' : World} {v1 v2 v3 v4 v5 : Value} {r : RF} (h : FRIs z w v1 v2 v3 v4 v5 r) (hb : Below w.heap.size w w') : FRIs z w' v1 v2 v3 v4 v5 r :=
  ⟨h.r1.below hb, h.r2.below hb, h.r3.below hb, h.r4.below hb, h.r5.below hb, h.n1, h.n2, h.n3⟩
theorem FRIs.set {w : World} {v1 v2 v3 v4 v5 : Value} {r : RF} (h : FRIs z w v1 v2 v3 v4 v5 r) {g o : Nat} {u : Value} {cs : Array Value} {fr : Nat × Nat} (hg : w.heap[g]? = some (.cells cs 27 fr)) : FRIs z (w.setCell ⟨g, o, none⟩ u) v1 v2 v3 v4 v5 r :=
  ⟨h.r1.set hg (by decide), h.r2.set hg (by decide), h.r3.set hg (by decide), h.r4.set hg (by decide), h.r5.set hg (by decide), h.n1, h.n2, h.n3⟩

theorem infoFlash : (Tryd.prog.info? 27).map (·.size) = some 6 := by kernel_rfl
theorem load_flash {w : World} {g : Nat} {v1 v2 v3 v4 v5 v6 : Value} (hh : w.heap[g]? = some (.cells #[v1, v2, v3, v4, v5, v6] 27 (0, 0))) : (loadVar 27 ⟨g, 0, none⟩).run Tryd.prog w = .ok (.agg #[v1, v2, v3, v4, v5, v6]) w :=
  run_loadVar_row w g 27 27 #[v1, v2, v3, v4, v5, v6] (0, 0) _ hh Tryd.underlying27 rfl infoFlash

set_option maxRecDepth 100000 in
set_option maxHeartbeats 1000000 in
theorem rlast_walk (w : World) (v1 v2 v3 v4 v5 : Value) (r : RF) (ac p : Nat) (h : FRIs z w v1 v2 v3 v4 v5 r) (hlen : r.L.length ≤ 1000) :
    Calls Tryd.prog 15 #[frV v1 v2 v3 v4 v5 ac, .int .i64 (p : Nat)] w fun e w' => e = .returned (.int .i64 (lastOf r.L p)) ∧ Below w.heap.size w w' := by
  obtain ⟨a1, n1, m1, rfl, -⟩ := h.r1.sl
  obtain ⟨a2, n2, m2, rfl, e2⟩ := h.r2.sl
  obtain ⟨a3, n3, m3, rfl, -⟩ := h.r3.sl
  obtain ⟨a4, n4, m4, rfl, -⟩ := h.r4.sl
  obtain ⟨a5, n5, m5, rfl, -⟩ := h.r5.sl
  rw [List.length_map] at e2
  have hn : n2 ≤ 1000 := by omega
  have HN := Lib.hid e2
  have HP := Lib.hid h.r2
  unfold frV
  obtain ⟨W1, hW1⟩ : ∃ W1, W1 = w.alloc (.cells #[.slice a1 n1 m1, .slice a2 n2 m2, .slice a3 n3 m3, .slice a4 n4 m4, .slice a5 n5 m5, .int .i64 (ac : Nat)] 27) := ⟨_, rfl⟩
  have hb1 : Below w.heap.size w W1 := by rw [hW1]; exact (Below.refl _ _).alloc (Nat.le_refl _) _
  have hX : W1.heap[w.heap.size]? = some (.cells #[.slice a1 n1 m1, .slice a2 n2 m2, .slice a3 n3 m3, .slice a4 n4 m4, .slice a5 n5 m5, .int .i64 (ac : Nat)] 27 (0, 0)) := by rw [hW1]; exact heap_alloc_new w _
  obtain ⟨⟨i0, i1, i2, i3, i4, i5⟩, -⟩ := cells6 hX
  have HB := Lib.hid hb1
  have HP1 := Lib.hid (HP.out.below hb1)
  have HW1 := Lib.hid hW1
  clear h e2 hb1 hX hW1
  go_enter Tryd.func15, Tryd.ntmps15
  go_wp2_with (rw [← HW1.out])
  go_loop [5] (fun ix => ∃ k : Nat, k ≤ n2 ∧ ix = .int .i64 ((k : Int) - 1) ∧ lastOf r.L p = lastIn r.L p k) (fun ix => (intOf ix + 1).toNat)
  case atStart => exact ⟨n2, Nat.le_refl _, by first | rfl | (congr 1; exact IntWalk.i64_in _ (by omega)) | (congr 1), by rw [HN.out]; rfl⟩
  case round =>
    obtain ⟨k, hk, rfl, hl⟩ := hrel
    have HLA := Lib.hid hl
    clear hl
    by_cases h0 : 0 < k
    · obtain ⟨j, rfl⟩ : ∃ j, k = j + 1 := ⟨k - 1, by omega⟩
      have q1 : decide ((0 : Int) ≤ (j : Int) + 1 - 1) = true := decide_eq_true (by omega)
      obtain ⟨e, he⟩ : ∃ e, r.L[j]? = some e := ⟨_, List.getElem?_eq_getElem (by have := HN.out; omega)⟩
      obtain ⟨bb, off, rfl, hc, -⟩ := HP1.out.at (show (r.L.map fun e => (e.2.1 : Int))[j]? = some (e.2.1 : Int) by rw [List.getElem?_map, he]; rfl)
      have s1 : (0 : Int) ≤ (j : Int) := by omega
      have s2 : (j : Int) < (n2 : Int) := by omega
      by_cases hp : e.2.1 = p
      · have q2 : ((e.2.1 : Int) == (p : Int)) = true := beq_iff_eq.2 (by omega)
        have HFIN : Hid (lastOf r.L p = (j : Int)) := Lib.hid (by rw [HLA.out]; unfold lastIn; rw [he, Option.map_some, if_pos (by rw [hp])])
        clear he hp
        go_wp2_with fail
        go_ret
        exact ⟨by rw [HFIN.out]; rfl, HB.out⟩
      · have q2 : ((e.2.1 : Int) == (p : Int)) = false := beq_eq_false_iff_ne.2 (by omega)
        have HFIN : Hid (lastOf r.L p = lastIn r.L p j) := Lib.hid (by
          rw [HLA.out]
          conv => lhs; unfold lastIn
          rw [he, Option.map_some, if_neg (fun e' => hp (Option.some.inj e'))])
        clear he hp
        go_wp2_with fail
        go_round
        case rel => exact ⟨j, by omega, by go_num, HFIN.out⟩
        case measure => first | (simp [intOf]; done) | (simp [intOf]; omega)
    · obtain rfl : k = 0 := by omega
      have HFIN : Hid (lastOf r.L p = -1) := Lib.hid HLA.out
      clear HLA
      go_wp2_with fail
      go_ret
      exact ⟨by rw [HFIN.out]; rfl, HB.out⟩

theorem liveOf_nat (L : List Ent) (b k : Nat) : (liveIn L b k).length ≤ k := liveIn_length L b k
set_option maxRecDepth 100000 in
set_option maxHeartbeats 2000000 in
theorem rlive_walk (w : World) (v1 v2 v3 v4 v5 : Value) (r : RF) (ac b : Nat) (h : FRIs z w v1 v2 v3 v4 v5 r) (hlen : r.L.length ≤ 1000) :
    Calls Tryd.prog 14 #[frV v1 v2 v3 v4 v5 ac, .int .i64 (b : Nat)] w fun e w' => (∃ v, e = .returned v ∧ w'.ownsRow w.heap.size 3 1 v (liveOf r.L b).length (ints (natsI (liveOf r.L b)))) ∧ Below w.heap.size w w' := by
  have HR := Lib.hid h
  obtain ⟨a1, n1, m1, rfl, e1⟩ := h.r1.sl
  obtain ⟨a2, n2, m2, rfl, e2⟩ := h.r2.sl
  obtain ⟨a3, n3, m3, rfl, -⟩ := h.r3.sl
  obtain ⟨a4, n4, m4, rfl, -⟩ := h.r4.sl
  obtain ⟨a5, n5, m5, rfl, -⟩ := h.r5.sl
  rw [List.length_map] at e1 e2
  obtain rfl : n1 = n2 := by omega
  have hn : n1 ≤ 1000 := by omega
  have HN := Lib.hid e2
  unfold frV
  obtain ⟨W1, hW1⟩ : ∃ W1, W1 = w.alloc (.cells #[.slice a1 n1 m1, .slice a2 n1 m2, .slice a3 n3 m3, .slice a4 n4 m4, .slice a5 n5 m5, .int .i64 (ac : Nat)] 27) := ⟨_, rfl⟩
  have hb1 : Below w.heap.size w W1 := by rw [hW1]; exact (Below.refl _ _).alloc (Nat.le_refl _) _
  have hX : W1.heap[w.heap.size]? = some (.cells #[.slice a1 n1 m1, .slice a2 n1 m2, .slice a3 n3 m3, .slice a4 n4 m4, .slice a5 n5 m5, .int .i64 (ac : Nat)] 27 (0, 0)) := by rw [hW1]; exact heap_alloc_new w _
  have HX := Lib.hid hX
  have HB := Lib.hid hb1
  have HR1 := Lib.hid (h.below hb1)
  have HW1 := Lib.hid hW1
  clear h e1 e2 hb1 hX hW1
  go_enter Tryd.func14, Tryd.ntmps14
  go_wp2_with (rw [← HW1.out])
  clear HW1
  go_loopw [5, 6] (fun v ix wr => ∃ k : Nat, k ≤ n1 ∧ ix = .int .i64 k ∧ wr.ownsRow W1.heap.size 3 1 v (liveIn r.L b k).length (ints (natsI (liveIn r.L b k))) ∧ Below W1.heap.size W1 wr) (fun _ ix _ => n1 - (intOf ix).toNat)
  case atStart => exact ⟨0, Nat.zero_le _, rfl, World.ownsRow_nil .., Below.refl ..⟩
  case round =>
    obtain ⟨k, hk, rfl, ho, hbl1⟩ := hrel
    have HO := Lib.hid ho
    have HBL1 := Lib.hid hbl1
    have HX2 := Lib.hid ((hbl1.block _ (lt_of_heap HX.out)).trans HX.out)
    have HR2 := Lib.hid (HR1.out.below hbl1)
    obtain ⟨⟨i0, i1, i2, i3, i4, i5⟩, -⟩ := cells6 HX2.out
    clear ho hbl1
    by_cases hlt : k < n1
    · have q1 : decide (k < n1) = true := decide_eq_true hlt
      obtain ⟨e, he⟩ : ∃ e, r.L[k]? = some e := ⟨_, List.getElem?_eq_getElem (by have := HN.out; omega)⟩
      obtain ⟨b1, o1, hb1, c1, -⟩ := HR2.out.r1.at (show (r.L.map fun e => e.1)[k]? = some e.1 by rw [List.getElem?_map, he]; rfl)
      obtain ⟨b2, o2, hb2, c2, -⟩ := HR2.out.r2.at (show (r.L.map fun e => (e.2.1 : Int))[k]? = some (e.2.1 : Int) by rw [List.getElem?_map, he]; rfl)
      subst hb1 hb2
      have s1 : (0 : Int) ≤ (k : Int) := by omega
      have s2 : (k : Int) < (n1 : Int) := by omega
      have hpa : pageAt r.L k = e.2 := by unfold pageAt; rw [he]; rfl
      have hiff : isLive r.L b k ↔ e.1 = (b : Int) ∧ lastOf r.L e.2.1 = (k : Int) := by
        unfold isLive
        rw [hpa, he, Option.map_some]
        simp only [Option.some.injEq]
      have hlk := liveIn_length r.L b k
      have HM1 := Lib.hid (show (liveIn r.L b k).length + 1 ≤ maxLen by unfold maxLen; omega)
      have HM2 := Lib.hid (show ((liveIn r.L b k).length + 1) * 8 ≤ 140737488355328 by omega)
      by_cases h1 : e.1 = (b : Int)
      · have q2 : (e.1 == (b : Int)) = true := beq_iff_eq.2 h1
        go_upto_region 5 with fail
        go_cut [31] (fun c wx => c = .bool (decide (lastOf r.L e.2.1 = (k : Int))) ∧ Below wr.heap.size wr wx)
        case first =>
          by_cases h2 : lastOf r.L e.2.1 = (k : Int)
          · have q3 : (lastOf r.L e.2.1 == (k : Int)) = true := beq_iff_eq.2 h2
            have HD := Lib.hid (decide_eq_true h2)
            clear h2 h1 hiff he hpa
            go_region_law (go_simp; go_at_call 15; refine (rlast_walk _ _ _ _ _ _ r ac e.2.1 (HR2.out.below (Below.refl wr.heap.size wr).drew) hlen).mono ?_; rintro _ w6 ⟨rfl, hb6⟩; have HB6 := Lib.hid ((Below.refl wr.heap.size wr).drew.trans hb6); clear hb6)
            all_goals
              go_wp2_with fail
              go_meet
              exact ⟨by rw [HD.out], HB6.out⟩
          · have q3 : (lastOf r.L e.2.1 == (k : Int)) = false := beq_eq_false_iff_ne.2 h2
            have HD := Lib.hid (decide_eq_false h2)
            clear h2 h1 hiff he hpa
            go_region_law (go_simp; go_at_call 15; refine (rlast_walk _ _ _ _ _ _ r ac e.2.1 (HR2.out.below (Below.refl wr.heap.size wr).drew) hlen).mono ?_; rintro _ w6 ⟨rfl, hb6⟩; have HB6 := Lib.hid ((Below.refl wr.heap.size wr).drew.trans hb6); clear hb6)
            all_goals
              go_wp2_with fail
              go_meet
              exact ⟨by rw [HD.out], HB6.out⟩
        case rest =>
          obtain ⟨rfl, hbx⟩ := hcut
          have HOX := Lib.hid (ownsRow_later HO.out hbx)
          have HBX1 := Lib.hid (HBL1.out.trans (hbx.mono HBL1.out.size))
          clear hbx
          by_cases h2 : lastOf r.L e.2.1 = (k : Int)
          · rw [decide_eq_true h2]
            have HL := Lib.hid (liveIn_yes (hiff.2 ⟨h1, h2⟩))
            clear h2 h1 hiff he hpa
            go_wp2_with (at_builtin; go_must (refine wpList_push (.int .i64 0) 8 HOX.out Tryd.underlying25 infoI0 rfl rfl (u := .int .i64 (k : Nat)) rfl rfl HM1.out HM2.out HBX1.out.size ?_; intro v' w7 hown1 hbel1 _; have HO7 := Lib.hid hown1; have HC7 := Lib.hid (HBX1.out.trans hbel1); clear hown1 hbel1))
            go_roundw
            case rel =>
              refine ⟨k + 1, by omega, by go_num, ?_, HC7.out⟩
              have h7 := HO7.out
              rw [HL.out]
              simpa [ints, natsI] using h7
            case measure => simp [intOf]; omega
          · rw [decide_eq_false h2]
            have HL := Lib.hid (liveIn_no (fun hh => h2 (hiff.1 hh).2))
            clear h2 h1 hiff he hpa
            go_wp2_with fail
            go_roundw
            case rel => exact ⟨k + 1, by omega, by go_num, by rw [HL.out]; exact HOX.out, HBX1.out⟩
            case measure => simp [intOf]; omega
      · have q2 : (e.1 == (b : Int)) = false := beq_eq_false_iff_ne.2 h1
        have HL := Lib.hid (liveIn_no (fun hh => h1 (hiff.1 hh).1))
        clear h1 hiff he hpa
        go_upto_region 5 with fail
        go_quiet (fail)
        have HOX := Lib.hid (ownsRow_later HO.out (below_drewN' wr nq))
        have HBX1 := Lib.hid (HBL1.out.trans ((below_drewN' wr nq).mono HBL1.out.size))
        go_wp2_with fail
        go_roundw
        case rel => exact ⟨k + 1, by omega, by go_num, by rw [HL.out]; exact HOX.out, HBX1.out⟩
        case measure => simp [intOf]; omega
    · obtain rfl : k = n1 := by omega
      have q1 : decide (k < k) = false := decide_eq_false (Nat.lt_irrefl _)
      have HE := Lib.hid (show liveOf r.L b = liveIn r.L b k by rw [HN.out]; rfl)
      go_wp2_with fail
      go_ret
      exact ⟨⟨_, rfl, by rw [HE.out]; exact ownsRow_base HO.out HB.out.size⟩, HB.out.trans (HBL1.out.mono HB.out.size)⟩

end Go.Proofs.YtegibgflhhdddaaDoor
