/- The reference's store: Find, Set, behind, Wrong. -/
import Derived.Test.YtaoekllajnnbjaaDoorDedup7h
namespace Go.Proofs.YtaoekllajnnbjaaDoor
open Go.RowKit

theorem HasInts.liesD {w : World} {a : Option Addr} {n cap : Nat} {L : List Int} (h : HasInts w (.slice a n cap) L) {j : Nat} {x : Int} (hx : L[j]? = some x) :
    ∃ b off, a = some ⟨b, off, none⟩ ∧ w.cell? ⟨b, off + j, none⟩ = some (.int .i64 x) := by
  obtain ⟨a', cap', h1, -, -, h4⟩ := h
  cases h1
  obtain ⟨b, off, h5, -, h6⟩ := h4 (Nat.lt_of_le_of_lt (Nat.zero_le _) (List.getElem?_eq_some_iff.1 hx).1)
  exact ⟨b, off, h5, h6 j x hx⟩
theorem HasInts.shape {w : World} {v : Value} {L : List Int} (h : HasInts w v L) : ∃ a cap, v = .slice a L.length cap := by
  obtain ⟨a, cap, h1, -⟩ := h
  exact ⟨a, cap, h1⟩
theorem HasStrs.shape {w : World} {v : Value} {L : List ByteArray} (h : HasStrs w v L) : ∃ a cap, v = .slice a L.length cap := by
  obtain ⟨a, cap, h1, -⟩ := h
  exact ⟨a, cap, h1⟩

/-- t is kept at place i -/
def LiveAt (L : List ByteArray) (N : List Int) (t : ByteArray) (i : Nat) : Prop := L[i]? = some t ∧ ∃ k, N[i]? = some k ∧ 0 < k

set_option maxHeartbeats 2000000 in
theorem find_walk (v1 v2 : Value) (L : List ByteArray) (N : List Int) (t : ByteArray) (w : World) (h1 : HasStrs w v1 L) (h2 : HasInts w v2 N) (hlen : N.length = L.length) (h40 : L.length ≤ 40) :
    Calls Tryd.prog 16 #[.agg #[v1, v2], .string t] w fun e w' => (∃ r : Int, e = .returned (.int .i64 r) ∧ ((r = -1 ∧ ∀ i, ¬ LiveAt L N t i) ∨ ∃ i : Nat, r = i ∧ LiveAt L N t i)) ∧ Below w.heap.size w w' := by
  obtain ⟨a1, c1, rfl⟩ := h1.shape
  obtain ⟨a2, c2, rfl⟩ := h2.shape
  obtain ⟨n, hn⟩ : ∃ n, n = L.length := ⟨_, rfl⟩
  rw [hlen] at h2 ⊢
  rw [← hn] at h1 h2 h40 ⊢
  have HN := Lib.hid hn
  have HM := Lib.hid (hlen.trans hn.symm)
  have H1 := Lib.hid h1
  have H2 := Lib.hid h2
  clear h1 h2 hlen hn
  go_enter Tryd.func16, Tryd.ntmps16
  go_wp2_with fail
  go_loopw [5] (fun ix wr => ∃ i : Nat, i ≤ n ∧ ix = .int .i64 i ∧ (∀ j, j < i → ¬ LiveAt L N t j) ∧ wr = w.alloc (.cells #[.slice a1 n c1, .slice a2 n c2] 27)) (fun ix _ => n - (intOf ix).toNat)
  case atStart => exact ⟨0, by omega, rfl, fun j h => by omega, rfl⟩
  case round =>
    obtain ⟨i, hi, rfl, hno, rfl⟩ := hrel
    have HNO := Lib.hid hno
    clear hno
    by_cases hlt : i < n
    · have q1 : decide (i < n) = true := decide_eq_true hlt
      obtain ⟨x, hx⟩ : ∃ x, L[i]? = some x := ⟨_, List.getElem?_eq_getElem (by have := HN.out; omega)⟩
      obtain ⟨k, hk⟩ : ∃ k, N[i]? = some k := ⟨_, List.getElem?_eq_getElem (by have := HM.out; omega)⟩
      obtain ⟨b1, o1, e1, hc1⟩ := (H1.out.below (((Below.refl w.heap.size w).alloc (Nat.le_refl _) (.cells #[.slice a1 n c1, .slice a2 n c2] 27)))).liesD hx
      obtain ⟨b2, o2, e2, hc2⟩ := (H2.out.below (((Below.refl w.heap.size w).alloc (Nat.le_refl _) (.cells #[.slice a1 n c1, .slice a2 n c2] 27)))).liesD hk
      subst e1 e2
      have HX := Lib.hid hx
      have HK := Lib.hid hk
      clear hx hk
      by_cases hp : 0 < k
      · have q2 : decide ((0 : Int) < k) = true := decide_eq_true hp
        by_cases he : x = t
        · have q3 : (x.toList == t.toList) = true := by rw [str_beq]; exact decide_eq_true he
          have HE := Lib.hid he
          clear he
          go_wp2_with fail
          go_ret
          exact ⟨⟨_, rfl, .inr ⟨i, rfl, by rw [← HE.out]; exact HX.out, k, HK.out, hp⟩⟩, (Below.refl _ _).alloc (Nat.le_refl _) _⟩
        · have q3 : (x.toList == t.toList) = false := str_beq_false he
          have HE := Lib.hid he
          clear he
          go_wp2_with fail
          go_roundw
          case rel =>
            refine ⟨i + 1, by omega, by go_num, fun j hj => ?_, trivial⟩
            rcases Nat.lt_succ_iff_lt_or_eq.1 hj with hj | rfl
            · exact HNO.out j hj
            · intro h
              have := h.1
              rw [HX.out] at this
              exact HE.out (Option.some.inj this)
          case measure => simp [intOf]; omega
      · have q2 : decide ((0 : Int) < k) = false := decide_eq_false hp
        go_wp2_with fail
        go_roundw
        case rel =>
          refine ⟨i + 1, by omega, by go_num, fun j hj => ?_, trivial⟩
          rcases Nat.lt_succ_iff_lt_or_eq.1 hj with hj | rfl
          · exact HNO.out j hj
          · intro ⟨_, k', h1, h2⟩
            rw [HK.out] at h1
            obtain rfl := Option.some.inj h1
            exact hp h2
        case measure => simp [intOf]; omega
    · obtain rfl : i = n := by omega
      have q1 : decide (i < i) = false := decide_eq_false hlt
      go_wp2_with fail
      go_ret
      refine ⟨⟨_, rfl, .inl ⟨rfl, fun j h => ?_⟩⟩, (Below.refl _ _).alloc (Nat.le_refl _) _⟩
      have hj := (List.getElem?_eq_some_iff.1 h.1).1
      exact HNO.out j (by have := HN.out; omega) h

theorem ref_in (a b c : Int) (w : World) :
    Calls Tryd.prog 13 #[.int .i64 a, .int .i64 b, .int .i64 c] w fun e w' => e = .returned (.bool (decide (b ≤ a ∧ a ≤ c))) ∧ w = w' := by
  by_cases h1 : b ≤ a
  · have q1 : decide (b ≤ a) = true := decide_eq_true h1
    by_cases h2 : a ≤ c
    · have q2 : decide (a ≤ c) = true := decide_eq_true h2
      go_enter Tryd.func13, Tryd.ntmps13
      go_wp2
      go_ret
      exact ⟨by simp [h1, h2], rfl⟩
    · have q2 : decide (a ≤ c) = false := decide_eq_false h2
      go_enter Tryd.func13, Tryd.ntmps13
      go_wp2
      go_ret
      exact ⟨by simp [h2], rfl⟩
  · have q1 : decide (b ≤ a) = false := decide_eq_false h1
    go_enter Tryd.func13, Tryd.ntmps13
    go_wp2
    go_ret
    exact ⟨by simp [h1], rfl⟩

/-- what is wrong with a number -/
def WrongIs (N : List Int) (id c : Int) : Prop := (c = 1 ∧ ¬ (0 ≤ id ∧ id ≤ (N.length : Int) - 1)) ∨ ∃ (i : Nat) (k : Int), id = i ∧ N[i]? = some k ∧ ((c = 5 ∧ k = 0) ∨ (c = 0 ∧ k ≠ 0))

set_option maxHeartbeats 1000000 in
theorem wrong_walk (v1 v2 : Value) (L : List ByteArray) (N : List Int) (id : Int) (w : World) (h1 : HasStrs w v1 L) (h2 : HasInts w v2 N) (hlen : N.length = L.length) (h40 : L.length ≤ 40) (hid : -9223372036854775808 ≤ id ∧ id ≤ 9223372036854775807) :
    Calls Tryd.prog 5 #[.agg #[v1, v2], .int .i64 id] w fun e w' => (∃ c : Int, e = .returned (.int .i64 c) ∧ WrongIs N id c) ∧ Below w.heap.size w w' := by
  obtain ⟨a1, c1, rfl⟩ := h1.shape
  obtain ⟨a2, c2, rfl⟩ := h2.shape
  obtain ⟨n, hn⟩ : ∃ n, n = L.length := ⟨_, rfl⟩
  rw [hlen] at h2 ⊢
  rw [← hn] at h1 h2 h40 ⊢
  have HM := Lib.hid (hlen.trans hn.symm)
  have H2 := Lib.hid h2
  clear h1 h2 hlen hn
  by_cases hin : 0 ≤ id ∧ id ≤ (n : Int) - 1
  · have D := Lib.hid (decide_eq_true hin)
    obtain ⟨i, rfl⟩ : ∃ i : Nat, id = i := ⟨id.toNat, by omega⟩
    have hlt : i < n := by omega
    obtain ⟨k, hk⟩ : ∃ k, N[i]? = some k := ⟨_, List.getElem?_eq_getElem (by have := HM.out; omega)⟩
    obtain ⟨b2, o2, e2, hc2⟩ := (H2.out.below (((Below.refl w.heap.size w).alloc (Nat.le_refl _) (.cells #[.slice a1 n c1, .slice a2 n c2] 27)))).liesD hk
    subst e2
    have HK := Lib.hid hk
    clear hk hin
    go_enter Tryd.func5, Tryd.ntmps5
    by_cases h0 : k = 0
    · have q2 : (k == 0) = true := by rw [h0]; rfl
      go_wp2_with fail
      refine (ref_in _ _ _ _).mono ?_
      rw [D.out]
      rintro _ w1 ⟨rfl, rfl⟩
      go_wp2_with fail
      go_ret
      exact ⟨⟨5, rfl, .inr ⟨i, k, rfl, HK.out, .inl ⟨rfl, h0⟩⟩⟩, (Below.refl _ _).alloc (Nat.le_refl _) _⟩
    · have q2 : (k == 0) = false := beq_eq_false_iff_ne.2 h0
      go_wp2_with fail
      refine (ref_in _ _ _ _).mono ?_
      rw [D.out]
      rintro _ w1 ⟨rfl, rfl⟩
      go_wp2_with fail
      go_ret
      exact ⟨⟨0, rfl, .inr ⟨i, k, rfl, HK.out, .inr ⟨rfl, h0⟩⟩⟩, (Below.refl _ _).alloc (Nat.le_refl _) _⟩
  · have D := Lib.hid (decide_eq_false hin)
    have HIN := Lib.hid hin
    clear hin
    go_enter Tryd.func5, Tryd.ntmps5
    go_wp2_with fail
    refine (ref_in _ _ _ _).mono ?_
    rw [D.out]
    rintro _ w1 ⟨rfl, rfl⟩
    go_wp2_with fail
    go_ret
    exact ⟨⟨1, rfl, .inl ⟨rfl, by rw [HM.out]; exact HIN.out⟩⟩, (Below.refl _ _).alloc (Nat.le_refl _) _⟩

theorem ints_setD (l : List Int) (i : Nat) (x : Int) : (ints l).set i (.int .i64 x) = ints (l.set i x) := by
  unfold ints
  rw [List.map_set]

set_option maxHeartbeats 400000 in
theorem set_anyD (va : Value) (xs : List Int) (i : Nat) (x : Int) (w : World) (ha : HasInts w va xs) (hi : i < xs.length) (hlen : xs.length ≤ 1000000) :
    Calls Tryd.prog 6 #[va, .int .i64 (i : Nat), .int .i64 x] w fun e w' => (∃ v, e = .returned v ∧ w'.ownsRow w.heap.size 3 1 v xs.length (ints (xs.set i x))) ∧ Below w.heap.size w w' := by
  obtain ⟨a, cap, rfl, la1, la2, hca⟩ := ha
  obtain ⟨b, o, rfl, hb, hac⟩ := hca (by omega)
  have HCN := Lib.hid (show ∀ j u, (ints xs)[j]? = some u → w.cell? ⟨b, o + j, none⟩ = some u from fun j u hj => by
    unfold ints at hj
    rw [List.getElem?_map] at hj
    obtain ⟨x, hx, rfl⟩ := Option.map_eq_some_iff.1 hj
    exact hac j x hx)
  have HL := Lib.hid (show (ints xs).length = xs.length from by simp [ints])
  have HN1 := Lib.hid (show 0 + xs.length ≤ maxLen from by unfold maxLen; omega)
  have HN2 := Lib.hid (show (0 + xs.length) * 8 ≤ 140737488355328 from by omega)
  have HOWN := Lib.hid (World.ownsRow_nil w w.heap.size 3 1)
  clear hac hca
  go_enter Tryd.func6, Tryd.ntmps6
  go_wp2_with (at_builtin; go_must (refine wpList_extend (.int .i64 0) 8 HOWN.out Tryd.underlying25 infoI0 rfl rfl HL.out HCN.out (ints_oneCell' _) rfl HN1.out HN2.out (Nat.le_refl _) ?_; intro v' w5 hown1 hbel1 _ hnil; (obtain ⟨g, c, rfl, ho⟩ := own_some hown1 (by omega)); (obtain ⟨u, hcell⟩ := own_hasCell ho i (by simp [ints]; omega)); have hfro := ho.frozenAt i; have HST := Lib.hid (ho.stored i (.int .i64 x)); have hgb := (ho.lt g rfl).1; have HB1 := Lib.hid hbel1; clear ho hown1 hbel1 hnil))
  go_ret
  refine ⟨⟨_, rfl, ?_⟩, HB1.out.setCell hgb _⟩
  have := HST.out.1
  simp only [Nat.zero_add, List.nil_append] at this
  rw [ints_setD] at this
  exact this

end Go.Proofs.YtaoekllajnnbjaaDoor
