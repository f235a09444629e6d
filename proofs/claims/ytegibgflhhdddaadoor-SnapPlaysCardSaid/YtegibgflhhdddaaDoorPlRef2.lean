/- The reference's planes: Used, Free, List, With, New. -/
import Derived.Test.YtegibgflhhdddaaDoorPlRef
import Derived.Deep.RegionHeld3
import Derived.Deep.RegionLaw
import Derived.Deep.DeepCutAuto
import Derived.Deep.CutBlock
import Derived.StillTailTactics
namespace Go.Proofs.YtegibgflhhdddaaDoor
open Go.RowKit
variable {z : Nat}

/-- the snapshots' rows at one place -/
theorem SR.at {w : World} {b cap : Nat} {s : Vol} (h : SR z w (.slice (some ⟨b, 0, none⟩) 4 cap) s) {k : Nat} (hk : k < 4) :
    b < w.heap.size ∧ ((s.b k = false ∧ w.cell? ⟨b, k, none⟩ = some (.slice none 0 0)) ∨ (s.b k = true ∧ ∃ rb ro rc, w.cell? ⟨b, k, none⟩ = some (.slice (some ⟨rb, ro, none⟩) 32 rc) ∧ IV z w (.slice (some ⟨rb, ro, none⟩) 32 rc) (rowOf (s.p k)))) := by
  obtain ⟨b', cap', cs, fr, e1, e2, e3, e4, e5, e6⟩ := h
  cases e1
  obtain ⟨rv, k1, k2, k3⟩ := e6 k hk
  refine ⟨lt_of_heap e4, ?_⟩
  cases hb : s.b k
  · rw [k3 hb] at k1
    exact .inl ⟨rfl, k1⟩
  · right
    unfold snapL at k2
    rw [if_pos hb] at k2
    obtain ⟨a, n, c, rfl, hn⟩ := k2.sl
    rw [rowOf_length] at hn
    subst hn
    obtain ⟨rb, ro, rfl, -⟩ := k2.at (rowOf_get (s.p k) (show 0 < 32 by omega))
    exact ⟨rfl, rb, ro, c, k1, k2⟩
theorem SR.sl {w : World} {v : Value} {s : Vol} (h : SR z w v s) : ∃ b cap, v = .slice (some ⟨b, 0, none⟩) 4 cap := by
  obtain ⟨b, cap, -, -, e1, -⟩ := h
  exact ⟨b, cap, e1⟩
theorem IV.row32 {w : World} {v : Value} {x : Nat} (h : IV z w v (rowOf x)) : ∃ b o c, v = .slice (some ⟨b, o, none⟩) 32 c := by
  obtain ⟨a, n, c, rfl, hn⟩ := h.sl
  rw [rowOf_length] at hn
  subst hn
  obtain ⟨rb, ro, rfl, -⟩ := h.at (rowOf_get x (show 0 < 32 by omega))
  exact ⟨rb, ro, c, rfl⟩
theorem IV.bit {w : World} {b o c x : Nat} (h : IV z w (.slice (some ⟨b, o, none⟩) 32 c) (rowOf x)) {i : Nat} (hi : i < 32) : w.cell? ⟨b, o + i, none⟩ = some (.int .i64 (if x.testBit i then 1 else 0)) ∧ b < w.heap.size := by
  obtain ⟨b', o', e, k1, k2⟩ := h.at (rowOf_get x hi)
  cases e
  exact ⟨k1, k2⟩

set_option maxRecDepth 100000 in
set_option maxHeartbeats 2000000 in
theorem used_walk (w : World) (v1 v2 : Value) (s : Vol) (i : Nat) (hs : s.ok) (h1 : IV z w v1 (rowOf s.now)) (h2 : SR z w v2 s) (hi : i < 32) :
    Calls Tryd.prog 42 #[.agg #[v1, v2], .int .i64 (i : Nat)] w fun e w' => e = .returned (.bool (s.all.testBit i)) ∧ Below w.heap.size w w' := by
  obtain ⟨b0, o0, c0, rfl⟩ := h1.row32
  obtain ⟨b, cap, rfl⟩ := h2.sl
  obtain ⟨W1, hW1⟩ : ∃ W1, W1 = w.alloc (.cells #[.slice (some ⟨b0, o0, none⟩) 32 c0, .slice (some ⟨b, 0, none⟩) 4 cap] 46) := ⟨_, rfl⟩
  have hb1 : Below w.heap.size w W1 := by rw [hW1]; exact (Below.refl _ _).alloc (Nat.le_refl _) _
  have hX : W1.heap[w.heap.size]? = some (.cells #[.slice (some ⟨b0, o0, none⟩) 32 c0, .slice (some ⟨b, 0, none⟩) 4 cap] 46 (0, 0)) := by rw [hW1]; exact heap_alloc_new w _
  obtain ⟨⟨i0, i1⟩, -⟩ := cells2 hX
  obtain ⟨hc, -⟩ := (h1.below hb1).bit hi
  have HSN := Lib.hid (h2.below hb1)
  have HS := Lib.hid hs
  have HB := Lib.hid hb1
  have HW1 := Lib.hid hW1
  have HALL := Lib.hid (all_bit s i)
  have s0 : (0 : Int) ≤ (i : Int) := by omega
  have s1 : (i : Int) < 32 := by omega
  clear h1 h2 hs hb1 hX hW1
  go_enter Tryd.func42, Tryd.ntmps42
  cases hbit : s.now.testBit i
  · have HBIT := Lib.hid hbit
    rw [hbit] at hc
    simp only [Bool.false_eq_true, if_false] at hc
    clear hbit
    go_wp2_with (rw [← HW1.out])
    go_loop [5] (fun ix => ∃ k : Nat, k ≤ 4 ∧ ix = .int .i64 (k : Nat) ∧ ∀ j, j < k → (s.p j).testBit i = false) (fun ix => 4 - (intOf ix).toNat)
    case atStart => exact ⟨0, Nat.zero_le _, rfl, fun j hj => by omega⟩
    case round =>
      obtain ⟨k, hk, rfl, hp⟩ := hrel
      have HP := Lib.hid hp
      clear hp
      by_cases hlt : k < 4
      · have q1 : decide ((k : Int) < 4) = true := decide_eq_true (by omega)
        have t0 : (0 : Int) ≤ (k : Int) := by omega
        have t1 : (k : Int) < 4 := by omega
        rcases (HSN.out.at hlt).2 with ⟨hb, hcell⟩ | ⟨hb, rb, ro, rc, hcell, hiv⟩
        · have HNX : Hid (∀ j, j < k + 1 → (s.p j).testBit i = false) := Lib.hid (fun j hj => by
            by_cases hjk : j = k
            · subst hjk
              rw [HS.out.2.2 _ hb]
              exact Nat.zero_testBit i
            · exact HP.out j (by omega))
          clear hb
          go_wp2_with fail
          go_round
          case rel => exact ⟨k + 1, by omega, by go_num, HNX.out⟩
          case measure => simp [intOf]; omega
        · obtain ⟨hcb, -⟩ := hiv.bit hi
          cases hpb : (s.p k).testBit i
          · rw [hpb] at hcb
            simp only [Bool.false_eq_true, if_false] at hcb
            have HNX : Hid (∀ j, j < k + 1 → (s.p j).testBit i = false) := Lib.hid (fun j hj => by
              by_cases hjk : j = k
              · subst hjk
                exact hpb
              · exact HP.out j (by omega))
            clear hb hpb hiv
            go_wp2_with fail
            go_round
            case rel => exact ⟨k + 1, by omega, by go_num, HNX.out⟩
            case measure => simp [intOf]; omega
          · rw [hpb] at hcb
            simp only [if_true] at hcb
            have HFIN : Hid (s.all.testBit i = true) := Lib.hid (by
              rw [HALL.out]
              have hk4 : k = 0 ∨ k = 1 ∨ k = 2 ∨ k = 3 := by omega
              rcases hk4 with rfl | rfl | rfl | rfl <;> simp [hpb])
            clear hb hpb hiv
            go_wp2_with fail
            go_ret
            exact ⟨by rw [HFIN.out]; rfl, HB.out⟩
      · obtain rfl : k = 4 := by omega
        have q1 : decide (((4 : Nat) : Int) < 4) = false := rfl
        have HFIN : Hid (s.all.testBit i = false) := Lib.hid (by
          rw [HALL.out, HBIT.out, HP.out 0 (by omega), HP.out 1 (by omega), HP.out 2 (by omega), HP.out 3 (by omega)]
          rfl)
        go_wp2_with fail
        go_ret
        exact ⟨by rw [HFIN.out]; rfl, HB.out⟩
  · have HFIN : Hid (s.all.testBit i = true) := Lib.hid (by rw [HALL.out, hbit]; simp)
    rw [hbit] at hc
    simp only [if_true] at hc
    clear hbit
    go_wp2_with (rw [← HW1.out])
    go_ret
    exact ⟨by rw [HFIN.out]; rfl, HB.out⟩

set_option maxRecDepth 100000 in
set_option maxHeartbeats 2000000 in
theorem rfree_walk (w : World) (v1 v2 : Value) (s : Vol) (hs : s.ok) (h1 : IV z w v1 (rowOf s.now)) (h2 : SR z w v2 s) :
    Calls Tryd.prog 19 #[.agg #[v1, v2]] w fun e w' => (∃ v, e = .returned v ∧ w'.ownsRow w.heap.size 3 1 v (freeTo s 32).length (ints (freeTo s 32))) ∧ Below w.heap.size w w' := by
  obtain ⟨b0, o0, c0, rfl⟩ := h1.row32
  obtain ⟨b, cap, rfl⟩ := h2.sl
  obtain ⟨W1, hW1⟩ : ∃ W1, W1 = w.alloc (.cells #[.slice (some ⟨b0, o0, none⟩) 32 c0, .slice (some ⟨b, 0, none⟩) 4 cap] 46) := ⟨_, rfl⟩
  have hb1 : Below w.heap.size w W1 := by rw [hW1]; exact (Below.refl _ _).alloc (Nat.le_refl _) _
  have hX : W1.heap[w.heap.size]? = some (.cells #[.slice (some ⟨b0, o0, none⟩) 32 c0, .slice (some ⟨b, 0, none⟩) 4 cap] 46 (0, 0)) := by rw [hW1]; exact heap_alloc_new w _
  have HX := Lib.hid hX
  have H1 := Lib.hid (h1.below hb1)
  have H2 := Lib.hid (h2.below hb1)
  have HB := Lib.hid hb1
  have HW1 := Lib.hid hW1
  have HS := Lib.hid hs
  clear h1 h2 hb1 hX hW1 hs
  go_enter Tryd.func19, Tryd.ntmps19
  go_wp2_with fail
  rw [← HW1.out]
  clear HW1
  go_loopw [3, 4] (fun v ix wr => ∃ k : Nat, k ≤ 32 ∧ ix = .int .i64 (k : Nat) ∧ wr.ownsRow W1.heap.size 3 1 v (freeTo s k).length (ints (freeTo s k)) ∧ Below W1.heap.size W1 wr) (fun _ ix _ => 32 - (intOf ix).toNat)
  case atStart => exact ⟨0, Nat.zero_le _, rfl, World.ownsRow_nil .., Below.refl ..⟩
  case round =>
    obtain ⟨k, hk, rfl, ho, hbl⟩ := hrel
    have HO := Lib.hid ho
    have HBL := Lib.hid hbl
    obtain ⟨⟨i0, i1⟩, -⟩ := cells2 ((hbl.block _ (lt_of_heap HX.out)).trans HX.out)
    clear ho hbl
    by_cases hlt : k < 32
    · have q1 : decide ((k : Int) < 32) = true := decide_eq_true (by omega)
      have hle := freeTo_le s k
      have HM1 := Lib.hid (show (freeTo s k).length + 1 ≤ maxLen by unfold maxLen; omega)
      have HM2 := Lib.hid (show ((freeTo s k).length + 1) * 8 ≤ 140737488355328 by omega)
      go_wp2_with fail
      refine (used_walk (z := z) wr _ _ s k HS.out (H1.out.below HBL.out) (H2.out.below HBL.out) hlt).mono ?_
      rintro _ w5 ⟨rfl, hb5⟩
      have HO5 := Lib.hid (ownsRow_later HO.out hb5)
      have HB5 := Lib.hid (HBL.out.trans (hb5.mono HBL.out.size))
      clear hb5 i0 i1
      cases hu : s.all.testBit k
      · have HL := Lib.hid (freeTo_yes hu)
        clear hu
        go_wp2_with (at_builtin; go_must (refine wpList_push (.int .i64 0) 8 HO5.out Tryd.underlying25 infoI0 rfl rfl (u := .int .i64 (k : Nat)) rfl rfl HM1.out HM2.out HB5.out.size ?_; intro v' w7 hown1 hbel1 _; have HO7 := Lib.hid hown1; have HC7 := Lib.hid (HB5.out.trans hbel1); clear hown1 hbel1))
        go_roundw
        case rel =>
          refine ⟨k + 1, by omega, by go_num, ?_, HC7.out⟩
          have h7 := HO7.out
          rw [HL.out]
          simpa [ints] using h7
        case measure => simp [intOf]; omega
      · have HL := Lib.hid (freeTo_no hu)
        clear hu
        go_wp2_with fail
        go_roundw
        case rel => exact ⟨k + 1, by omega, by go_num, by rw [HL.out]; exact HO5.out, HB5.out⟩
        case measure => simp [intOf]; omega
    · obtain rfl : k = 32 := by omega
      have q1 : decide (((32 : Nat) : Int) < 32) = false := rfl
      go_wp2_with fail
      go_ret
      exact ⟨⟨_, rfl, ownsRow_base HO.out HB.out.size⟩, HB.out.trans (HBL.out.mono HB.out.size)⟩

set_option maxRecDepth 100000 in
set_option maxHeartbeats 1000000 in
theorem rlist_walk (w : World) (v : Value) (L : List Int) (h : IV z w v L) (hl : L.length ≤ 1000) :
    Calls Tryd.prog 30 #[v] w fun e w' => (∃ u, e = .returned u ∧ w'.ownsRow w.heap.size 3 1 u (onesTo L L.length).length (ints (onesTo L L.length))) ∧ Below w.heap.size w w' := by
  obtain ⟨a, n, c, rfl, hn⟩ := h.sl
  have HN := Lib.hid hn
  have H := Lib.hid h
  have hn1 : n ≤ 1000 := by omega
  clear h hn
  go_enter Tryd.func30, Tryd.ntmps30
  go_wp2_with fail
  go_loopw [3, 4] (fun v ix wr => ∃ k : Nat, k ≤ n ∧ ix = .int .i64 (k : Nat) ∧ wr.ownsRow w.heap.size 3 1 v (onesTo L k).length (ints (onesTo L k)) ∧ Below w.heap.size w wr) (fun _ ix _ => n - (intOf ix).toNat)
  case atStart => exact ⟨0, Nat.zero_le _, rfl, World.ownsRow_nil .., Below.refl ..⟩
  case round =>
    obtain ⟨k, hk, rfl, ho, hbl⟩ := hrel
    have HO := Lib.hid ho
    have HBL := Lib.hid hbl
    clear ho hbl
    by_cases hlt : k < n
    · have q1 : decide (k < n) = true := decide_eq_true hlt
      have hle := onesTo_len L k
      have HM1 := Lib.hid (show (onesTo L k).length + 1 ≤ maxLen by unfold maxLen; omega)
      have HM2 := Lib.hid (show ((onesTo L k).length + 1) * 8 ≤ 140737488355328 by omega)
      obtain ⟨x, hx⟩ : ∃ x, L[k]? = some x := ⟨_, List.getElem?_eq_getElem (by have := HN.out; omega)⟩
      obtain ⟨b, o, rfl, hc, -⟩ := (H.out.below HBL.out).at hx
      have s0 : (0 : Int) ≤ (k : Int) := by omega
      have s1 : (k : Int) < (n : Int) := by omega
      by_cases h1 : x = 1
      · have q2 : (x == (1 : Int)) = true := beq_iff_eq.2 h1
        have HL := Lib.hid (onesTo_yes (L := L) (k := k) (by rw [hx, h1]))
        clear h1 hx
        go_wp2_with (at_builtin; go_must (refine wpList_push (.int .i64 0) 8 HO.out Tryd.underlying25 infoI0 rfl rfl (u := .int .i64 (k : Nat)) rfl rfl HM1.out HM2.out HBL.out.size ?_; intro v' w7 hown1 hbel1 _; have HO7 := Lib.hid hown1; have HC7 := Lib.hid (HBL.out.trans hbel1); clear hown1 hbel1))
        go_roundw
        case rel =>
          refine ⟨k + 1, by omega, by go_num, ?_, HC7.out⟩
          have h7 := HO7.out
          rw [HL.out]
          simpa [ints] using h7
        case measure => simp [intOf]; omega
      · have q2 : (x == (1 : Int)) = false := beq_eq_false_iff_ne.2 h1
        have HL := Lib.hid (onesTo_no (L := L) (k := k) (by rw [hx]; exact fun e => h1 (Option.some.inj e)))
        clear h1 hx
        go_wp2_with fail
        go_roundw
        case rel => exact ⟨k + 1, by omega, by go_num, by rw [HL.out]; exact HO.out, HBL.out⟩
        case measure => simp [intOf]; omega
    · obtain rfl : k = n := by omega
      have q1 : decide (k < k) = false := decide_eq_false (Nat.lt_irrefl _)
      go_wp2_with fail
      go_ret
      exact ⟨⟨_, rfl, by rw [← HN.out]; exact HO.out⟩, HBL.out⟩

theorem infoRow : (Tryd.prog.info? 25).map (fun i => (i.zero, i.size, i.bytes)) = some (some (.slice none 0 0), 1, 24) := by kernel_rfl

/-- what comes of With -/
theorem SR.with {w w' : World} {b cap r5 k5 k : Nat} {s : Vol} {p : Value} {x : Nat} {f : Bool} (h : SR z w (.slice (some ⟨b, 0, none⟩) 4 cap) s) (hb : Below w.heap.size w w') (base : Nat) (hz : z ≤ base) {rv : Nat → Value}
    (hrv : ∀ j, j < 4 → w.cell? ⟨b, j, none⟩ = some (rv j)) (ho : w'.ownsRow base 25 1 (.slice (some ⟨r5, 0, none⟩) 4 k5) 4 [rv 0, rv 1, rv 2, rv 3]) (hk : k < 4) (hp : IV z w p (if f then rowOf x else [])) (hf : f = false → p = .slice none 0 0) :
    SR z (w'.setCell ⟨r5, k, none⟩ p) (.slice (some ⟨r5, 0, none⟩) 4 k5) (s.setP k x f) := by
  obtain ⟨b', cap', cs, fr, e1, e2, e3, e4, e5, e6⟩ := h
  cases e1
  have hst := ho.stored k p
  have hbs := (ho.lt r5 rfl).1
  obtain ⟨h1, h2⟩ := ho
  rcases h2 with ⟨h2, -⟩ | ⟨g, c2, cur, h2, h3, h4, h5, h6, h7⟩
  · cases h2
  · cases h2
    have hh' := heap_setCell_same w' r5 k cur _ p h4
    refine ⟨r5, k5, _, _, rfl, h5, h6, hh', Nat.le_trans hz h3, fun j hj => ?_⟩
    have hcell : (w'.setCell ⟨r5, k, none⟩ p).cell? ⟨r5, j, none⟩ = ([rv 0, rv 1, rv 2, rv 3].set k p)[j]? := by
      have := hst.1.cellAt j (by omega)
      exact this
    by_cases hjk : j = k
    · subst hjk
      refine ⟨p, ?_, ?_, ?_⟩
      · rw [hcell, List.getElem?_set_self (by simp; omega)]
      · have e : snapL (s.setP j x f) j = if f then rowOf x else [] := by
          unfold snapL Vol.setP
          simp
        rw [e]
        exact (hp.below hb).set h4 (by decide)
      · intro hf'
        refine hf ?_
        unfold Vol.setP at hf'
        simpa using hf'
    · obtain ⟨rv', k1, k2, k3⟩ := e6 j hj
      have hrj : rv' = rv j := by rw [hrv j hj] at k1; exact (Option.some.inj k1).symm
      subst hrj
      refine ⟨rv j, ?_, ?_, ?_⟩
      · rw [hcell, List.getElem?_set_ne (fun e => hjk e.symm)]
        have hj4 : j = 0 ∨ j = 1 ∨ j = 2 ∨ j = 3 := by omega
        rcases hj4 with rfl | rfl | rfl | rfl <;> rfl
      · have e : snapL (s.setP k x f) j = snapL s j := by
          unfold snapL Vol.setP
          simp [hjk]
        rw [e]
        exact (k2.below hb).set h4 (by decide)
      · intro hf'
        refine k3 ?_
        unfold Vol.setP at hf'
        simpa [hjk] using hf'

end Go.Proofs.YtegibgflhhdddaaDoor
