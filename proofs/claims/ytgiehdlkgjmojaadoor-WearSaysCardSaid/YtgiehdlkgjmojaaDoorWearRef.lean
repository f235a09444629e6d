/- The walks of the references that WearSays asks: Values, Least, Set. -/
import Derived.Test.YtgiehdlkgjmojaaDoorWear2
namespace Go.Proofs.YtgiehdlkgjmojaaDoor
open Go.RowKit Wear

theorem refIn_any (a b c : Int) (w : World) :
    Calls Tryd.prog 52 #[.int .i64 a, .int .i64 b, .int .i64 c] w fun e w' => e = .returned (.bool (decide (b ≤ a ∧ a ≤ c))) ∧ w = w' := by
  by_cases h1 : b ≤ a
  · have q1 : decide (b ≤ a) = true := decide_eq_true h1
    by_cases h2 : a ≤ c
    · have q2 : decide (a ≤ c) = true := decide_eq_true h2
      go_enter Tryd.func52, Tryd.ntmps52
      go_wp2
      go_ret
      exact ⟨ret_boolW (by simp [h1, h2]), rfl⟩
    · have q2 : decide (a ≤ c) = false := decide_eq_false h2
      go_enter Tryd.func52, Tryd.ntmps52
      go_wp2
      go_ret
      exact ⟨ret_boolW (by simp), rfl⟩
  · have q1 : decide (b ≤ a) = false := decide_eq_false h1
    go_enter Tryd.func52, Tryd.ntmps52
    go_wp2
    go_ret
    exact ⟨ret_boolW (by simp), rfl⟩

set_option maxHeartbeats 400000 in
theorem refAll_any (va : Value) (xs : List Int) (lo hi : Int) (w : World) (ha : HasInts w va xs) :
    Calls Tryd.prog 43 #[va, .int .i64 lo, .int .i64 hi] w fun e w' => e = .returned (.bool (decide (∀ x ∈ xs, lo ≤ x ∧ x ≤ hi))) ∧ w = w' := by
  obtain ⟨a, capa, rfl, la1, la2, hca⟩ := ha
  unfold maxLen at la2
  have la : xs.length ≤ 9223372036854775807 := by omega
  clear la1 la2
  obtain ⟨n, hn⟩ : ∃ n, n = xs.length := ⟨_, rfl⟩
  rw [← hn] at la hca ⊢
  have HN := Lib.hid hn
  clear hn
  go_enter Tryd.func43, Tryd.ntmps43
  go_wp2_with fail
  go_loop [7] (fun i => ∃ k : Nat, k ≤ n ∧ i = .int .i64 (k : Nat) ∧ ∀ x ∈ xs.take k, lo ≤ x ∧ x ≤ hi) (fun i => n - (intOf i).toNat)
  case atStart => exact ⟨0, by omega, rfl, by simp⟩
  case round =>
    obtain ⟨k, hk, rfl, hs⟩ := hrel
    have HS := Lib.hid hs
    clear hs
    by_cases hlt : k < n
    · obtain ⟨b, o, rfl, hb, hac⟩ := hca (by omega)
      obtain ⟨x, hx⟩ : ∃ x, xs[k]? = some x := ⟨_, List.getElem?_eq_getElem (by have := HN.out; omega)⟩
      have hxc := hac k x hx
      have HX := Lib.hid hx
      clear hx hca hac
      go_wp2_with fail
      refine (refIn_any _ _ _ _).mono ?_
      obtain ⟨q, hq⟩ : ∃ q, q = decide (lo ≤ x ∧ x ≤ hi) := ⟨_, rfl⟩
      rw [← hq]
      have HQ := Lib.hid hq
      clear hq
      rintro e w' ⟨rfl, rfl⟩
      cases q
      · go_wp2_with fail
        go_ret
        refine ⟨ret_boolW ?_, rfl⟩
        symm
        simp only [decide_eq_false_iff_not]
        intro h
        exact of_decide_eq_false HQ.out.symm (h x (List.mem_of_getElem? HX.out))
      · go_wp2_with fail
        go_round
        case rel => exact ⟨k + 1, by omega, by go_num, fun y hy => by
          rw [List.take_add_one, HX.out] at hy
          simp at hy
          rcases hy with hy | hy
          · exact HS.out y hy
          · subst hy; exact of_decide_eq_true HQ.out.symm⟩
        case measure => simp [intOf]; omega
    · go_wp2_with fail
      go_ret
      refine ⟨ret_boolW ?_, rfl⟩
      symm
      simp only [decide_eq_true_eq]
      have := HS.out
      rw [List.take_of_length_le (by have := HN.out; omega)] at this
      exact this

set_option maxHeartbeats 400000 in
theorem values_any (va : Value) (xs : List Int) (w : World) (ha : HasInts w va xs) :
    Calls Tryd.prog 24 #[va] w fun e w' => e = .returned (.int .i64 (codeOf xs)) ∧ w = w' := by
  have HA := Lib.hid ha
  obtain ⟨a, capa, rfl, la1, la2, -⟩ := ha
  unfold maxLen at la2
  by_cases h0 : xs = []
  · have h : codeOf xs = 5 := by simp [codeOf, h0]
    rw [h]
    subst h0
    go_enter Tryd.func24, Tryd.ntmps24
    go_wp2_with fail
    go_ret
    exact ⟨rfl, rfl⟩
  have hpos : 0 < xs.length := List.length_pos_iff.2 h0
  have q0 : ((xs.length : Int) == 0) = false := beq_eq_false_iff_ne.2 (by omega)
  by_cases h1 : 16 < xs.length
  · have h : codeOf xs = 4 := by simp [codeOf, h0, h1]
    rw [h]
    clear h
    go_enter Tryd.func24, Tryd.ntmps24
    go_wp2_with fail
    go_ret
    exact ⟨rfl, rfl⟩
  · by_cases h2 : ∀ x ∈ xs, 0 ≤ x ∧ x ≤ 1000
    · have h : codeOf xs = 0 := by unfold codeOf; rw [if_neg h0, if_neg h1, if_pos h2]
      rw [h]
      have D := Lib.hid (decide_eq_true h2)
      clear h h2 h0
      go_enter Tryd.func24, Tryd.ntmps24
      go_wp2_with fail
      refine (refAll_any _ xs _ _ _ HA.out).mono ?_
      rw [D.out]
      rintro e w' ⟨rfl, rfl⟩
      go_wp2_with fail
      go_ret
      exact ⟨rfl, rfl⟩
    · have h : codeOf xs = 1 := by unfold codeOf; rw [if_neg h0, if_neg h1, if_neg h2]
      rw [h]
      have D := Lib.hid (decide_eq_false h2)
      clear h h2 h0
      go_enter Tryd.func24, Tryd.ntmps24
      go_wp2_with fail
      refine (refAll_any _ xs _ _ _ HA.out).mono ?_
      rw [D.out]
      rintro e w' ⟨rfl, rfl⟩
      go_wp2_with fail
      go_ret
      exact ⟨rfl, rfl⟩

/-- so far place i is the least one, the first such -/
def LeastTo (xs : List Int) (k i : Nat) (m : Int) : Prop := xs[i]? = some m ∧ (∀ y ∈ xs.take k, m ≤ y) ∧ ∀ j x, j < i → xs[j]? = some x → m < x

set_option maxHeartbeats 400000 in
theorem refLeast_any (va : Value) (xs : List Int) (w : World) (ha : HasInts w va xs) (h0 : 0 < xs.length) :
    Calls Tryd.prog 27 #[va] w fun e w' => (∃ i : Nat, e = .returned (.int .i64 (i : Nat)) ∧ IsLeast xs i) ∧ ∃ d, w' = w.drewN d := by
  obtain ⟨a, capa, rfl, la1, la2, hca⟩ := ha
  unfold maxLen at la2
  have la : xs.length ≤ 9223372036854775807 := by omega
  clear la1 la2
  obtain ⟨b, o, rfl, hb, hac⟩ := hca h0
  obtain ⟨n, hn⟩ : ∃ n, n = xs.length := ⟨_, rfl⟩
  obtain ⟨x0, hx0⟩ : ∃ x, xs[0]? = some x := ⟨_, List.getElem?_eq_getElem h0⟩
  have F0 := Lib.hid (show LeastTo xs 0 0 x0 from ⟨hx0, by simp, fun j x h => by omega⟩)
  rw [← hn] at la h0 ⊢
  have HN := Lib.hid hn
  have HAC := Lib.hid hac
  clear hn hac hca hx0
  go_enter Tryd.func27, Tryd.ntmps27
  go_wp2_with fail
  go_loopw [3, 4] (fun u i wr => ∃ k q m, k ≤ n ∧ i = .int .i64 (k : Nat) ∧ u = .int .i64 (q : Nat) ∧ LeastTo xs k q m ∧ q < n ∧ ∃ d, wr = w.drewN d) (fun _ i _ => n - (intOf i).toNat)
  case atStart => exact ⟨0, 0, x0, by omega, rfl, rfl, F0.out, h0, 0, rfl⟩
  case round =>
    obtain ⟨k, q, m, hk, rfl, rfl, hl, hq, d, rfl⟩ := hrel
    have HL := Lib.hid hl
    clear hl
    by_cases hlt : k < n
    · obtain ⟨x, hx⟩ : ∃ x, xs[k]? = some x := ⟨_, List.getElem?_eq_getElem (by have := HN.out; omega)⟩
      have hxc := HAC.out k x hx
      have hmc := HAC.out q m HL.out.1
      have HX := Lib.hid hx
      clear hx
      by_cases hle : x < m
      · have q1 : decide (x < m) = true := decide_eq_true hle
        go_wp2_with fail
        go_quiet (fail)
        go_wp2_with fail
        go_roundw
        case rel => exact ⟨k + 1, k, x, by omega, by go_num, rfl, ⟨HX.out, fun y hy => by
            rw [List.take_add_one, HX.out] at hy
            simp at hy
            rcases hy with hy | hy
            · have := HL.out.2.1 y hy; omega
            · omega, fun j y hj hy => by
            have := HL.out.2.1 y (List.mem_take_iff_getElem.2 ⟨j, by
              have : j < xs.length := by
                rcases Nat.lt_or_ge j xs.length with h | h
                · exact h
                · rw [List.getElem?_eq_none h] at hy; cases hy
              omega, by
              have hj' : j < xs.length := by
                rcases Nat.lt_or_ge j xs.length with h | h
                · exact h
                · rw [List.getElem?_eq_none h] at hy; cases hy
              rw [List.getElem?_eq_getElem hj'] at hy
              exact Option.some.inj hy⟩)
            omega⟩, hlt, _, rfl⟩
        case measure => simp [intOf]; omega
      · have q1 : decide (x < m) = false := decide_eq_false hle
        go_wp2_with fail
        go_quiet (fail)
        go_wp2_with fail
        go_roundw
        case rel => exact ⟨k + 1, q, m, by omega, by go_num, rfl, ⟨HL.out.1, fun y hy => by
            rw [List.take_add_one, HX.out] at hy
            simp at hy
            rcases hy with hy | hy
            · exact HL.out.2.1 y hy
            · omega, HL.out.2.2⟩, hq, _, rfl⟩
        case measure => simp [intOf]; omega
    · go_wp2_with fail
      go_ret
      refine ⟨⟨q, rfl, m, HL.out.1, ⟨List.mem_of_getElem? HL.out.1, ?_⟩, fun j x hj hx => by have := HL.out.2.2 j x hj hx; omega⟩, _, rfl⟩
      have := HL.out.2.1
      rw [List.take_of_length_le (by have := HN.out; omega)] at this
      exact this

set_option maxHeartbeats 400000 in
theorem set_any (va : Value) (xs : List Int) (i : Nat) (x : Int) (w : World) (ha : HasInts w va xs) (hi : i < xs.length) (hlen : xs.length ≤ 1000000) :
    Calls Tryd.prog 31 #[va, .int .i64 (i : Nat), .int .i64 x] w fun e w' => (∃ v, e = .returned v ∧ w'.ownsRow w.heap.size 3 1 v xs.length (ints (xs.set i x))) ∧ Below w.heap.size w w' := by
  obtain ⟨a, cap, rfl, la1, la2, hca⟩ := ha
  obtain ⟨b, o, rfl, hb, hac⟩ := hca (by omega)
  have HCN := Lib.hid (show ∀ j u, (ints xs)[j]? = some u → w.cell? ⟨b, o + j, none⟩ = some u from fun j u hj => by
    unfold ints at hj
    rw [List.getElem?_map] at hj
    obtain ⟨x, hx, rfl⟩ := Option.map_eq_some_iff.1 hj
    exact hac j x hx)
  have HL := Lib.hid (show (ints xs).length = xs.length from by simp [ints])
  have HN1 := Lib.hid (show 0 + xs.length ≤ maxLen from by unfold maxLen; omega)
  have HN2 := Lib.hid (show (0 + xs.length) * 8 ≤ 140737488355328 from by omega)
  have HOWN := Lib.hid (World.ownsRow_nil w w.heap.size 3 1)
  clear hac hca
  go_enter Tryd.func31, Tryd.ntmps31
  go_wp2_with (at_builtin; go_must (refine wpList_extend (.int .i64 0) 8 HOWN.out Tryd.underlying22 infoInt rfl rfl HL.out HCN.out (ints_oneCell' _) rfl HN1.out HN2.out (Nat.le_refl _) ?_; intro v' w5 hown1 hbel1 _ hnil; (obtain ⟨g, c, rfl, ho⟩ := own_some hown1 (by omega)); (obtain ⟨u, hcell⟩ := own_hasCell ho i (by simp [ints]; omega)); have hfro := ho.frozenAt i; have HST := Lib.hid (ho.stored i (.int .i64 x)); have hgb := (ho.lt g rfl).1; have HB1 := Lib.hid hbel1; clear ho hown1 hbel1 hnil))
  go_ret
  refine ⟨⟨_, rfl, ?_⟩, HB1.out.setCell hgb _⟩
  have := HST.out.1
  simp only [Nat.zero_add, List.nil_append] at this
  rw [ints_set] at this
  exact this

end Go.Proofs.YtgiehdlkgjmojaaDoor
