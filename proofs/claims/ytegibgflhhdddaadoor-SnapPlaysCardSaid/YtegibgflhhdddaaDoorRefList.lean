/- The references' lists: Set, behind. -/
import Derived.Test.YtegibgflhhdddaaDoorProg
import Derived.Test.YtegibgflhhdddaaDoorBase
import Derived.Deep.DeepCutAuto
import Derived.Deep.CutBlock
namespace Go.Proofs.YtegibgflhhdddaaDoor
open Go.RowKit

theorem infoI0 : (Tryd.prog.info? 3).map (fun i => (i.zero, i.size, i.bytes)) = some (some (.int .i64 0), 1, 8) := by kernel_rfl

theorem ints_setD (l : List Int) (i : Nat) (x : Int) : (ints l).set i (.int .i64 x) = ints (l.set i x) := by
  unfold ints
  rw [List.map_set]

set_option maxHeartbeats 400000 in
theorem set_anyD (va : Value) (xs : List Int) (i : Nat) (x : Int) (w : World) (ha : HasInts w va xs) (hi : i < xs.length) (hlen : xs.length ≤ 1000000) :
    Calls Tryd.prog 20 #[va, .int .i64 (i : Nat), .int .i64 x] w fun e w' => (∃ v, e = .returned v ∧ w'.ownsRow w.heap.size 3 1 v xs.length (ints (xs.set i x))) ∧ Below w.heap.size w w' := by
  obtain ⟨a, cap, rfl, la1, la2, hca⟩ := ha
  obtain ⟨b, o, rfl, hb, hac⟩ := hca (by omega)
  have HCN := Lib.hid (show ∀ j u, (ints xs)[j]? = some u → w.cell? ⟨b, o + j, none⟩ = some u from fun j u hj => by
    unfold ints at hj
    rw [List.getElem?_map] at hj
    obtain ⟨x, hx, rfl⟩ := Option.map_eq_some_iff.1 hj
    exact hac j x hx)
  have HL := Lib.hid (show (ints xs).length = xs.length from by simp [ints])
  have HN1 := Lib.hid (show 0 + xs.length ≤ maxLen from by unfold maxLen; omega)
  have HN2 := Lib.hid (show (0 + xs.length) * 8 ≤ 140737488355328 from by omega)
  have HOWN := Lib.hid (World.ownsRow_nil w w.heap.size 3 1)
  clear hac hca
  go_enter Tryd.func20, Tryd.ntmps20
  go_wp2_with (at_builtin; go_must (refine wpList_extend (.int .i64 0) 8 HOWN.out Tryd.underlying25 infoI0 rfl rfl HL.out HCN.out (ints_oneCell' _) rfl HN1.out HN2.out (Nat.le_refl _) ?_; intro v' w5 hown1 hbel1 _ hnil; (obtain ⟨g, c, rfl, ho⟩ := own_some hown1 (by omega)); (obtain ⟨u, hcell⟩ := own_hasCell ho i (by simp [ints]; omega)); have hfro := ho.frozenAt i; have HST := Lib.hid (ho.stored i (.int .i64 x)); have hgb := (ho.lt g rfl).1; have HB1 := Lib.hid hbel1; clear ho hown1 hbel1 hnil))
  go_ret
  refine ⟨⟨_, rfl, ?_⟩, HB1.out.setCell hgb _⟩
  have := HST.out.1
  simp only [Nat.zero_add, List.nil_append] at this
  rw [ints_setD] at this
  exact this

theorem append_nilnil {e : TypeId} {t ty : TypeId} {i : TypeInfo} (ht : Tryd.prog.underlying t = some (.slice e)) (hi : Tryd.prog.info? e = some i) (w : World) :
    (Builtin.append_ #[t, t] ty #[.slice none 0 0, .slice none 0 0]).run Tryd.prog w = .ok (.slice none 0 0) w := by
  simp [Builtin.append_, run_underlying ht, sizeOf, typeInfo, zeroValue, hi, Builtin.lenOf, Question.forced, run_firstCells_none]
theorem append_nilInts (w : World) : (Builtin.append_ #[25, 25] 25 #[.slice none 0 0, .slice none 0 0]).run Tryd.prog w = .ok (.slice none 0 0) w := by
  obtain ⟨i, hi, -, -⟩ := info_parts infoI0
  exact append_nilnil Tryd.underlying25 hi w
set_option maxHeartbeats 400000 in
theorem behind_nil (x : Int) (w : World) :
    Calls Tryd.prog 51 #[.slice none 0 0, .int .i64 x] w fun e w' => (∃ v, e = .returned v ∧ w'.ownsRow w.heap.size 3 1 v 1 (ints [x])) ∧ Below w.heap.size w w' := by
  have happ := append_nilInts
  have HOWN := Lib.hid (World.ownsRow_nil w w.heap.size 3 1)
  have HZ := Lib.hid (show 0 + 1 ≤ maxLen by unfold maxLen; omega)
  go_enter Tryd.func51, Tryd.ntmps51
  go_upto_region 3 with fail
  go_wp2_with (at_builtin; go_must (refine wpList_push (.int .i64 0) 8 HOWN.out Tryd.underlying25 infoI0 rfl rfl (u := .int .i64 x) rfl rfl HZ.out (by omega) (Nat.le_refl _) ?_; intro v' w5 hown1 hbel1 _; have HO1 := Lib.hid hown1; have HB1 := Lib.hid hbel1; clear hown1 hbel1))
  go_ret
  exact ⟨⟨_, rfl, HO1.out⟩, HB1.out⟩

set_option maxHeartbeats 400000 in
theorem behind_some (va : Value) (xs : List Int) (x : Int) (w : World) (ha : HasInts w va xs) (hi : 0 < xs.length) (hlen : xs.length ≤ 1000000) :
    Calls Tryd.prog 51 #[va, .int .i64 x] w fun e w' => (∃ v, e = .returned v ∧ w'.ownsRow w.heap.size 3 1 v (xs.length + 1) (ints (xs ++ [x]))) ∧ Below w.heap.size w w' := by
  obtain ⟨a, cap, rfl, la1, la2, hca⟩ := ha
  obtain ⟨b, o, rfl, hb, hac⟩ := hca (by omega)
  have HCN := Lib.hid (show ∀ j u, (ints xs)[j]? = some u → w.cell? ⟨b, o + j, none⟩ = some u from fun j u hj => by
    unfold ints at hj
    rw [List.getElem?_map] at hj
    obtain ⟨x, hx, rfl⟩ := Option.map_eq_some_iff.1 hj
    exact hac j x hx)
  have HL := Lib.hid (show (ints xs).length = xs.length from by simp [ints])
  have HN1 := Lib.hid (show 0 + xs.length ≤ maxLen from by unfold maxLen; omega)
  have HN2 := Lib.hid (show (0 + xs.length) * 8 ≤ 140737488355328 from by omega)
  have HN3 := Lib.hid (show 0 + xs.length + 1 ≤ maxLen from by unfold maxLen; omega)
  have HN4 := Lib.hid (show (0 + xs.length + 1) * 8 ≤ 140737488355328 from by omega)
  have HOWN := Lib.hid (World.ownsRow_nil w w.heap.size 3 1)
  clear hac hca
  go_enter Tryd.func51, Tryd.ntmps51
  go_upto_region 3 with (at_builtin; go_must (refine wpList_extend (.int .i64 0) 8 HOWN.out Tryd.underlying25 infoI0 rfl rfl HL.out HCN.out (ints_oneCell' _) rfl HN1.out HN2.out (Nat.le_refl _) ?_; intro v' w5 hown1 hbel1 _ hnil; have HO1 := Lib.hid hown1; have HB1 := Lib.hid hbel1; clear hown1 hbel1 hnil))
  go_wp2_with (at_builtin; go_must (refine wpList_push (.int .i64 0) 8 HO1.out Tryd.underlying25 infoI0 rfl rfl (u := .int .i64 x) rfl rfl HN3.out HN4.out HB1.out.size ?_; intro v'' w6 hown2 hbel2 _; have HO2 := Lib.hid hown2; have HB2 := Lib.hid hbel2; clear hown2 hbel2))
  go_ret
  refine ⟨⟨_, rfl, ?_⟩, HB1.out.trans HB2.out⟩
  have := HO2.out
  simpa [ints, Nat.add_comm] using this

/-- behind, at whatever list that is nil where it is empty -/
theorem behind_any (va : Value) (xs : List Int) (x : Int) (w : World) (ha : HasInts w va xs) (h0 : xs = [] → va = .slice none 0 0) (hlen : xs.length ≤ 1000000) :
    Calls Tryd.prog 51 #[va, .int .i64 x] w fun e w' => (∃ v, e = .returned v ∧ w'.ownsRow w.heap.size 3 1 v (xs.length + 1) (ints (xs ++ [x]))) ∧ Below w.heap.size w w' := by
  cases xs with
  | nil => rw [h0 rfl]; exact behind_nil x w
  | cons y ys => exact behind_some va (y :: ys) x w ha (by simp) hlen

end Go.Proofs.YtegibgflhhdddaaDoor
