/- The walks of wear.Next, After, and of Clone. -/
import Derived.Test.YtgiehdlkgjmojaaDoorWear1
namespace Go.Proofs.YtgiehdlkgjmojaaDoor
open Go.RowKit Wear

theorem infoInt : (Tryd.prog.info? 3).map (fun i => (i.zero, i.size, i.bytes)) = some (some (.int .i64 0), 1, 8) := by kernel_rfl

set_option maxHeartbeats 400000 in
theorem next_any (va : Value) (xs : List Int) (w : World) (ha : HasInts w va xs) :
    Calls Tryd.prog 29 #[va] w fun e w' => ((codeOf xs ≠ 0 ∧ e = .returned (.tuple #[.int .i64 0, errW (codeOf xs)])) ∨ (codeOf xs = 0 ∧ ∃ i : Nat, e = .returned (.tuple #[.int .i64 (i : Nat), .nilIface]) ∧ IsLeast xs i)) ∧ w = w' := by
  have HA := Lib.hid ha
  obtain ⟨a, cap, rfl, -, -, -⟩ := ha
  go_enter Tryd.func29, Tryd.ntmps29
  go_wp2_with fail
  refine (check_any _ xs _ HA.out).mono ?_
  by_cases hc : codeOf xs = 0
  · have HC := Lib.hid hc
    rw [hc]
    clear hc
    have hpos : 0 < xs.length := by
      rcases Nat.eq_zero_or_pos xs.length with h | h
      · have := HC.out; rw [List.length_eq_zero_iff.1 h] at this; simp [codeOf] at this
      · exact h
    rintro e w' ⟨rfl, rfl⟩
    simp only [errW, if_true]
    go_wp2_with fail
    refine (least_any _ xs _ HA.out hpos).mono ?_
    rintro e w' ⟨⟨i, rfl, hi⟩, rfl⟩
    have HI := Lib.hid hi
    clear hi
    go_wp2_with fail
    go_ret2
    exact ⟨.inr ⟨HC.out, i, rfl, HI.out⟩, rfl⟩
  · have HC := Lib.hid hc
    rintro e w' ⟨rfl, rfl⟩
    obtain ⟨c, hcc⟩ : ∃ c, c = codeOf xs := ⟨_, rfl⟩
    have HK := Lib.hid (show errW (codeOf xs) = .iface 63 (.int .i64 c) from by unfold errW; rw [if_neg hc, hcc])
    rw [HK.out]
    clear hc hcc
    go_wp2_with fail
    go_ret2
    exact ⟨.inl ⟨HC.out, by rw [HK.out]; rfl⟩, rfl⟩

set_option maxHeartbeats 400000 in
theorem clone_any (b off cap : Nat) (xs : List Int) (w : World) (hlt : b < w.heap.size) (hc : ∀ j x, xs[j]? = some x → w.cell? ⟨b, off + j, none⟩ = some (.int .i64 x)) (hlen : xs.length ≤ 140737488351232 / 8) (h0 : 0 < xs.length) :
    Calls Tryd.prog 50 #[.slice (some ⟨b, off, none⟩) xs.length cap] w fun e w' => (∃ g c, e = .returned (.slice (some ⟨g, 0, none⟩) xs.length c) ∧
      w'.ownsRow w.heap.size 3 1 (.slice (some ⟨g, 0, none⟩) xs.length c) xs.length (ints xs)) ∧ Below w.heap.size w w' := by
  have hsn := fun wx => Lib.run_eql_slice_nil (P := Tryd.prog) wx 22 3 (some ⟨b, off, none⟩) xs.length cap 0 0 Tryd.underlying22
  have HCN := Lib.hid (show ∀ j u, (ints xs)[j]? = some u → (w.alloc (.cells #[] 3)).cell? ⟨b, off + j, none⟩ = some u from fun j u hj => by
    rw [World.cell?_alloc_lt _ _ ⟨b, off + j, none⟩ hlt]
    unfold ints at hj
    rw [List.getElem?_map] at hj
    obtain ⟨x, hx, rfl⟩ := Option.map_eq_some_iff.1 hj
    exact hc j x hx)
  have HOWN := Lib.hid (World.ownsRow_made (base := w.heap.size) (e := 3) (size := 1) w #[] 0 (Nat.le_refl _) (by unfold maxLen; omega) rfl)
  have HL := Lib.hid (show (ints xs).length = xs.length from by simp [ints])
  have HN1 := Lib.hid (show 0 + xs.length ≤ maxLen from by unfold maxLen; omega)
  have HN2 := Lib.hid (show (0 + xs.length) * 8 ≤ 140737488355328 from by omega)
  have HS := Lib.hid (show w.heap.size ≤ (w.alloc (.cells #[] 3)).heap.size from by simp)
  clear hc hlt
  go_enter Tryd.func50, Tryd.ntmps50
  go_wp2_with (at_builtin; go_must (refine wpList_extend (.int .i64 0) 8 HOWN.out Tryd.underlying22 infoInt rfl rfl HL.out HCN.out (ints_oneCell' _) rfl HN1.out HN2.out HS.out ?_; intro v' w5 hown1 hbel1 _ hnil; have HO1 := Lib.hid hown1; have HB1 := Lib.hid (((Below.refl _ _).alloc (Nat.le_refl _) _).trans hbel1); have HNIL := Lib.hid hnil; clear hown1 hbel1 hnil))
  go_ret
  refine ⟨?_, HB1.out⟩
  have ho := HO1.out
  simp only [Nat.zero_add, List.nil_append] at ho
  rcases ho.2 with ⟨h, h'⟩ | ⟨g, c, cur, h, -⟩
  · omega
  · exact ⟨g, c, by rw [← h]; rfl, by rw [← h]; exact ho⟩

/-- ahead of a use: the row of the call's own, and what it holds -/
def AftRel (w wr : World) (xs : List Int) (g c k : Nat) : Prop :=
  ∃ ys, UsesN k xs ys ∧ wr.ownsRow w.heap.size 3 1 (.slice (some ⟨g, 0, none⟩) xs.length c) xs.length (ints ys) ∧ Below w.heap.size w wr

theorem ints_get {l : List Int} {i : Nat} {x : Int} (h : l[i]? = some x) : (ints l)[i]? = some (.int .i64 x) := by
  unfold ints
  rw [List.getElem?_map, h]; rfl
theorem ints_set (l : List Int) (i : Nat) (x : Int) : (ints l).set i (.int .i64 x) = ints (l.set i x) := by
  unfold ints
  rw [List.map_set]

set_option maxHeartbeats 1000000 in
theorem after_any (va : Value) (xs : List Int) (m : Int) (w : World) (ha : HasInts w va xs) (hm : 0 ≤ m ∧ m ≤ 1000) (hcode : codeOf xs = 0) :
    Calls Tryd.prog 32 #[va, .int .i64 m] w fun e w' => (∃ v ys, e = .returned (.tuple #[v, .nilIface]) ∧ UsesN m.toNat xs ys ∧ w'.ownsRow w.heap.size 3 1 v xs.length (ints ys)) ∧ Below w.heap.size w w' := by
  have HA := Lib.hid ha
  obtain ⟨a, cap, rfl, la1, la2, hca⟩ := ha
  have hx : 0 < xs.length ∧ xs.length ≤ 16 ∧ ∀ x ∈ xs, 0 ≤ x ∧ x ≤ 1000 := by
    unfold codeOf at hcode
    split at hcode
    · omega
    · rename_i h
      split at hcode
      · omega
      · split at hcode
        · exact ⟨List.length_pos_iff.2 h, by omega, by assumption⟩
        · omega
  obtain ⟨hx1, hx2, hx3⟩ := hx
  obtain ⟨b, off, rfl, hlt, hc⟩ := hca hx1
  have HC := Lib.hid hc
  have HX := Lib.hid hx3
  obtain ⟨m', rfl⟩ : ∃ m' : Nat, m = m' := ⟨m.toNat, by omega⟩
  rw [Int.toNat_natCast]
  have hm2 : m' ≤ 1000 := by omega
  have HM := Lib.hid (show decide ((0 : Int) ≤ (m' : Int) ∧ (m' : Int) ≤ 1000) = true from decide_eq_true (by omega))
  have HCODE := Lib.hid hcode
  clear hc hca hm hcode la1 la2 hx3
  go_enter Tryd.func32, Tryd.ntmps32
  go_wp2_with fail
  refine (check_any _ xs _ HA.out).mono ?_
  rw [HCODE.out]
  rintro e w' ⟨rfl, rfl⟩
  simp only [errW, if_true]
  go_wp2_with fail
  refine (within_any _ _ _ _).mono ?_
  rw [HM.out]
  rintro e w' ⟨rfl, rfl⟩
  go_wp2_with fail
  refine (clone_any b off cap xs _ hlt HC.out (by omega) hx1).mono ?_
  rintro e w1 ⟨⟨g, c, rfl, hown⟩, hb⟩
  have HO := Lib.hid hown
  have HB := Lib.hid hb
  clear hown hb
  go_wp2_with fail
  go_loopw [20] (fun i wr => ∃ k : Nat, k ≤ m' ∧ i = .int .i64 (k : Nat) ∧ AftRel w wr xs g c k) (fun i _ => m' - (intOf i).toNat)
  case atStart => exact ⟨0, Nat.zero_le _, rfl, xs, rfl, HO.out, HB.out⟩
  case round =>
    obtain ⟨k, hk, rfl, ys, hu, hown, hb⟩ := hrel
    have HU := Lib.hid hu
    have HOWN := Lib.hid hown
    have HBR := Lib.hid hb
    have HL := Lib.hid hu.length
    clear hu hown hb
    by_cases hlt : k < m'
    · have hi := (HasInts.of_own HOWN.out).2
      have HI := Lib.hid hi
      clear hi
      go_wp2_with fail
      refine (least_any _ ys _ HI.out (by rw [HL.out]; exact hx1)).mono ?_
      rintro e w' ⟨⟨i, rfl, hi⟩, rfl⟩
      obtain ⟨v, hv, -, -⟩ := id hi
      have hil : i < xs.length := by
        rw [← HL.out]
        rcases Nat.lt_or_ge i ys.length with h | h
        · exact h
        · rw [List.getElem?_eq_none h] at hv; cases hv
      have hcell : wr.cell? ⟨g, i, none⟩ = some (.int .i64 v) := by rw [HOWN.out.cellAt i (by omega)]; exact ints_get hv
      have hfro : wr.frozen? ⟨g, i, none⟩ = false := HOWN.out.frozenAt i
      have hvb : 0 ≤ v ∧ v ≤ 2000 := by
        obtain ⟨x, hx⟩ : ∃ x, xs[i]? = some x := ⟨_, List.getElem?_eq_getElem hil⟩
        have h1 := HU.out.ge i x v hx hv
        have h2 := HX.out x (List.mem_of_getElem? hx)
        omega
      have ST := Lib.hid (HOWN.out.stored i (.int .i64 (v + 1)))
      have EU := Lib.hid (show Uses ys (ys.set i (v + 1)) from ⟨i, v, hi, hv, rfl⟩)
      have hg : w.heap.size ≤ g := (HOWN.out.lt g rfl).1
      have hv1 := hvb.1
      have hv2 := hvb.2
      clear hi hv hvb
      go_wp2_with fail
      go_roundw
      case rel => exact ⟨k + 1, by omega, by go_num, _, ⟨_, HU.out, EU.out⟩, by have := ST.out.1; rw [ints_set] at this; exact this, HBR.out.setCell hg _⟩
      case measure => simp [intOf]; omega
    · obtain rfl : k = m' := by omega
      go_wp2_with fail
      go_ret2
      exact ⟨⟨_, ys, rfl, HU.out, HOWN.out⟩, HBR.out⟩

set_option maxHeartbeats 400000 in
theorem after_bad (va : Value) (xs : List Int) (m c : Int) (w : World) (ha : HasInts w va xs) (hc0 : c ≠ 0) (hbad : codeOf xs = c ∨ (codeOf xs = 0 ∧ ¬ (0 ≤ m ∧ m ≤ 1000) ∧ c = 1)) :
    Calls Tryd.prog 32 #[va, .int .i64 m] w fun e w' => e = .returned (.tuple #[.slice none 0 0, .iface 63 (.int .i64 c)]) ∧ w = w' := by
  have HA := Lib.hid ha
  obtain ⟨a, cap, rfl, -, -, -⟩ := ha
  rcases hbad with hc | ⟨hc, hm, rfl⟩
  · have HK := Lib.hid (show errW (codeOf xs) = .iface 63 (.int .i64 c) from by unfold errW; rw [hc, if_neg hc0])
    clear hc hc0
    go_enter Tryd.func32, Tryd.ntmps32
    go_wp2_with fail
    refine (check_any _ xs _ HA.out).mono ?_
    rw [HK.out]
    rintro e w' ⟨rfl, rfl⟩
    go_wp2_with fail
    go_ret2
    exact ⟨rfl, rfl⟩
  · have HM := Lib.hid (show decide ((0 : Int) ≤ m ∧ m ≤ 1000) = false from decide_eq_false hm)
    have HC := Lib.hid hc
    clear hc hm hc0
    go_enter Tryd.func32, Tryd.ntmps32
    go_wp2_with fail
    refine (check_any _ xs _ HA.out).mono ?_
    rw [HC.out]
    rintro e w' ⟨rfl, rfl⟩
    simp only [errW, if_true]
    go_wp2_with fail
    refine (within_any _ _ _ _).mono ?_
    rw [HM.out]
    rintro e w' ⟨rfl, rfl⟩
    go_wp2_with fail
    go_ret2
    exact ⟨rfl, rfl⟩

end Go.Proofs.YtgiehdlkgjmojaaDoor
