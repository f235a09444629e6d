/- The walks of platterholdref1.Without and Rising. -/
import Derived.Test.YtgiehdlkgjmojaaDoorProg
import Derived.Test.YtgiehdlkgjmojaaDoorBase
import Derived.Test.YtgiehdlkgjmojaaDoorWearMath
namespace Go.Proofs.YtgiehdlkgjmojaaDoor
open Go.RowKit Wear

theorem infoIntR : (Tryd.prog.info? 3).map (fun i => (i.zero, i.size, i.bytes)) = some (some (.int .i64 0), 1, 8) := by kernel_rfl

def WithoutRel (w wr : World) (xs : List Int) (m : Int) (k : Nat) (u g : Value) : Prop :=
  g = .bool (decide (m ∈ xs.take k)) ∧ wr.ownsRow w.heap.size 3 1 u ((xs.take k).erase m).length (ints ((xs.take k).erase m)) ∧ Below w.heap.size w wr

theorem without_gone {w wr : World} {xs : List Int} {m : Int} {k : Nat} {u : Value} (hx : xs[k]? = some m) (hq : m ∉ xs.take k)
    (hown : wr.ownsRow w.heap.size 3 1 u ((xs.take k).erase m).length (ints ((xs.take k).erase m))) (hb : Below w.heap.size w wr) : WithoutRel w wr xs m (k + 1) u (.bool true) := by
  have e : (xs.take (k + 1)).erase m = (xs.take k).erase m := by
    rw [List.take_add_one, hx, List.erase_append, if_neg hq, List.erase_of_not_mem hq]
    simp
  refine ⟨?_, by rw [e]; exact hown, hb⟩
  rw [List.take_add_one, hx]
  simp
theorem without_kept {w wr : World} {xs : List Int} {m x : Int} {k : Nat} {u : Value} {q : Bool} (hq : decide (m ∈ xs.take k) = q) (hx : xs[k]? = some x) (hne : x ≠ m ∨ q = true)
    (hown : wr.ownsRow w.heap.size 3 1 u (((xs.take k).erase m).length + 1) (ints ((xs.take k).erase m) ++ [.int .i64 x])) (hb : Below w.heap.size w wr) : WithoutRel w wr xs m (k + 1) u (.bool q) := by
  have e : (xs.take (k + 1)).erase m = (xs.take k).erase m ++ [x] := by
    rw [List.take_add_one, hx, List.erase_append]
    split
    · rfl
    · rename_i h
      rw [List.erase_of_not_mem h]
      rcases hne with hne | hne
      · simp [hne]
      · subst hne; exact absurd (of_decide_eq_true hq) h
  refine ⟨?_, by rw [e]; simpa [ints] using hown, hb⟩
  rw [List.take_add_one, hx]
  subst hq
  rcases hne with hne | hne
  · simp; intro h; exact absurd h.symm hne
  · simp at hne; simp [hne]

set_option maxHeartbeats 1000000 in
theorem without_any (va : Value) (xs : List Int) (m : Int) (w : World) (ha : HasInts w va xs) (hlen : xs.length ≤ 1000) :
    Calls Tryd.prog 46 #[va, .int .i64 m] w fun e w' => (∃ v, e = .returned v ∧ w'.ownsRow w.heap.size 3 1 v (xs.erase m).length (ints (xs.erase m))) ∧ Below w.heap.size w w' := by
  obtain ⟨a, cap, rfl, la1, la2, hca⟩ := ha
  obtain ⟨n, hn⟩ : ∃ n, n = xs.length := ⟨_, rfl⟩
  rw [← hn] at hlen hca ⊢
  have HN := Lib.hid hn
  have HC := Lib.hid hca
  clear hn hca la1 la2
  go_enter Tryd.func46, Tryd.ntmps46
  go_wp2_with fail
  go_loopw [5, 6, 7] (fun u g i wr => ∃ k : Nat, k ≤ n ∧ i = .int .i64 k ∧ WithoutRel w wr xs m k u g) (fun _ _ i _ => n - (intOf i).toNat)
  case atStart => exact ⟨0, Nat.zero_le _, rfl, by simp, World.ownsRow_nil .., Below.refl ..⟩
  case round =>
    obtain ⟨k, hk, rfl, rfl, hown, hb⟩ := hrel
    have HOWN := Lib.hid hown
    have HB := Lib.hid hb
    have hle : ((xs.take k).erase m).length ≤ k := by
      have := List.length_erase_le (a := m) (l := xs.take k)
      have := List.length_take_le k xs
      omega
    have HN1 := Lib.hid (show ((xs.take k).erase m).length + 1 ≤ maxLen from by unfold maxLen; omega)
    have HN2 := Lib.hid (show (((xs.take k).erase m).length + 1) * 8 ≤ 140737488355328 from by omega)
    obtain ⟨q, hq⟩ : ∃ q, decide (m ∈ xs.take k) = q := ⟨_, rfl⟩
    rw [hq]
    have HQ := Lib.hid hq
    clear hown hb hle hq
    by_cases hlt : k < n
    · obtain ⟨b, o, rfl, hbx, hcx⟩ := HC.out (by omega)
      obtain ⟨x, hx⟩ : ∃ x, xs[k]? = some x := ⟨_, List.getElem?_eq_getElem (by have := HN.out; omega)⟩
      have hxc := hcx k x hx
      rw [← HB.out.cell (p := ⟨b, o + k, none⟩) hbx] at hxc
      have HX := Lib.hid hx
      clear hx hcx
      by_cases he : x = m
      · subst he
        have q1 : (x == x) = true := by simp
        cases q
        · go_wp2_with fail
          go_roundw
          case rel => exact ⟨k + 1, by omega, by go_num, without_gone HX.out (of_decide_eq_false HQ.out) HOWN.out HB.out⟩
          case measure => simp [intOf]; omega
        · go_wp2_with (at_builtin; go_must (refine wpList_push (.int .i64 0) 8 HOWN.out Tryd.underlying22 infoIntR rfl rfl rfl rfl HN1.out HN2.out HB.out.size ?_; intro v' w5 hown1 hbel1 _; have HO1 := Lib.hid hown1; have HB1 := Lib.hid (HB.out.trans hbel1); clear hown1 hbel1))
          go_roundw
          case rel => exact ⟨k + 1, by omega, by go_num, without_kept HQ.out HX.out (.inr rfl) HO1.out HB1.out⟩
          case measure => simp [intOf]; omega
      · have q1 : (x == m) = false := beq_eq_false_iff_ne.2 he
        go_wp2_with (at_builtin; go_must (refine wpList_push (.int .i64 0) 8 HOWN.out Tryd.underlying22 infoIntR rfl rfl rfl rfl HN1.out HN2.out HB.out.size ?_; intro v' w5 hown1 hbel1 _; have HO1 := Lib.hid hown1; have HB1 := Lib.hid (HB.out.trans hbel1); clear hown1 hbel1))
        go_roundw
        case rel => exact ⟨k + 1, by omega, by go_num, without_kept HQ.out HX.out (.inl he) HO1.out HB1.out⟩
        case measure => simp [intOf]; omega
    · go_wp2_with fail
      go_ret
      have ho := HOWN.out
      rw [List.take_of_length_le (by have := HN.out; omega)] at ho
      exact ⟨⟨_, rfl, ho⟩, HB.out⟩

/-- rising -/
def Up (ys : List Int) : Prop := ys.Pairwise (· ≤ ·)

structure RisRel (w wr : World) (xs : List Int) (rest ys : List Int) (l u : Value) : Prop where
  reads : HasInts wr l rest
  own : wr.ownsRow w.heap.size 3 1 u ys.length (ints ys)
  other : ∀ a n c, l = .slice (some a) n c → u.ownBlock ≠ some a.block
  perm : (ys ++ rest).Perm xs
  up : Up ys
  le : ∀ x ∈ ys, ∀ y ∈ rest, x ≤ y
  below : Below w.heap.size w wr

theorem ownBlock_lt {w : World} {base : Nat} {e : TypeId} {size : Nat} {v : Value} {n : Nat} {xs : List Value} (h : w.ownsRow base e size v n xs) {k : Nat} (hk : v.ownBlock = some k) : base ≤ k ∧ k < w.heap.size := h.lt k hk

/-- the reading of a slice lives on beside an append to another row -/
theorem HasInts.grown {w w' : World} {l v : Value} {xs : List Int} (h : HasInts w l xs) (hg : w.grownBy w' v.ownBlock) (ho : ∀ a n c, l = .slice (some a) n c → v.ownBlock ≠ some a.block) : HasInts w' l xs := by
  obtain ⟨a, cap, h2, hc1, hc2, h3⟩ := h
  refine ⟨a, cap, h2, hc1, hc2, fun h0 => ?_⟩
  obtain ⟨b, off, ha, hlt, hc⟩ := h3 h0
  refine ⟨b, off, ha, Nat.lt_of_lt_of_le hlt hg.size, fun j x hx => ?_⟩
  refine hg.cell (hc j x hx) ?_
  intro e
  exact ho ⟨b, off, none⟩ xs.length cap (by rw [h2, ha]) e.symm

set_option maxHeartbeats 1000000 in
theorem rising_any (va : Value) (xs : List Int) (w : World) (ha : HasInts w va xs) (hlen : xs.length ≤ 1000) :
    Calls Tryd.prog 28 #[va] w fun e w' => (∃ v ys, e = .returned v ∧ w'.ownsRow w.heap.size 3 1 v ys.length (ints ys) ∧ ys.Perm xs ∧ Up ys) ∧ Below w.heap.size w w' := by
  go_enter Tryd.func28, Tryd.ntmps28
  go_wp2_with fail
  go_loopw [0, 3] (fun l u wr => ∃ rest ys, RisRel w wr xs rest ys l u) (fun l _ _ => match l with | .slice _ n _ => n | _ => 0)
  case atStart => exact ⟨xs, [], ha, World.ownsRow_nil .., (by intro a n c _ h; cases h), List.Perm.refl _, List.Pairwise.nil, (by simp), Below.refl ..⟩
  case round =>
    obtain ⟨rest, ys, hrel⟩ := hrel
    have HR := Lib.hid hrel
    have hll : ys.length + rest.length = xs.length := by have := hrel.perm.length_eq; simpa using this
    have hre := hrel.reads
    obtain ⟨a, cap, rfl, hc1, hc2, hc⟩ := hre
    obtain ⟨n, hn⟩ : ∃ n, n = rest.length := ⟨_, rfl⟩
    rw [← hn] at hll hc ⊢
    have HN := Lib.hid hn
    clear hrel hc1 hc2 hn
    by_cases h0 : 0 < n
    · obtain ⟨b, o, rfl, hbx, hcx⟩ := hc h0
      obtain ⟨x0, hx0⟩ : ∃ x, rest[0]? = some x := ⟨_, List.getElem?_eq_getElem (by have := HN.out; omega)⟩
      have h0c := hcx 0 x0 hx0
      simp only [Nat.add_zero] at h0c
      have M0 := Lib.hid (List.mem_of_getElem? hx0)
      have HC := Lib.hid hcx
      clear hc hcx hx0
      go_wp2_with fail
      go_loop [4, 5] (fun u i => ∃ k m, k ≤ n ∧ i = .int .i64 (k : Nat) ∧ u = .int .i64 m ∧ m ∈ rest ∧ ∀ y ∈ rest.take k, m ≤ y) (fun _ i => n - (intOf i).toNat)
      case atStart => exact ⟨0, x0, by omega, rfl, rfl, M0.out, by simp⟩
      case round =>
        obtain ⟨k, m, hk, rfl, rfl, hm1, hm2⟩ := hrel
        have HM1 := Lib.hid hm1
        have HM2 := Lib.hid hm2
        clear hm1 hm2 h0c
        by_cases hlt : k < n
        · obtain ⟨x, hx⟩ : ∃ x, rest[k]? = some x := ⟨_, List.getElem?_eq_getElem (by have := HN.out; omega)⟩
          have hxc := HC.out k x hx
          have HX := Lib.hid hx
          clear hx
          by_cases hle : x < m
          · have q1 : decide (x < m) = true := decide_eq_true hle
            go_wp2_with fail
            go_round
            case rel => exact ⟨k + 1, x, by omega, by go_num, rfl, List.mem_of_getElem? HX.out, fun y hy => by
              rw [List.take_add_one, HX.out] at hy
              simp at hy
              rcases hy with hy | hy
              · have := HM2.out y hy; omega
              · omega⟩
            case measure => simp [intOf]; omega
          · have q1 : decide (x < m) = false := decide_eq_false hle
            go_wp2_with fail
            go_round
            case rel => exact ⟨k + 1, m, by omega, by go_num, rfl, HM1.out, fun y hy => by
              rw [List.take_add_one, HX.out] at hy
              simp at hy
              rcases hy with hy | hy
              · exact HM2.out y hy
              · omega⟩
            case measure => simp [intOf]; omega
        · have HMIN := Lib.hid (show ∀ y ∈ rest, m ≤ y from by
            have := HM2.out
            rw [List.take_of_length_le (by have := HN.out; omega)] at this
            exact this)
          have HN1 := Lib.hid (show ys.length + 1 ≤ maxLen from by unfold maxLen; omega)
          have HN2 := Lib.hid (show (ys.length + 1) * 8 ≤ 140737488355328 from by omega)
          go_wp2_with (at_builtin; go_must (refine wpList_push (.int .i64 0) 8 HR.out.own Tryd.underlying22 infoIntR rfl rfl rfl rfl HN1.out HN2.out HR.out.below.size ?_; intro v' w5 hown1 hbel1 hgr1; have HO1 := Lib.hid hown1; have HB1 := Lib.hid (HR.out.below.trans hbel1); have HG1 := Lib.hid hgr1; clear hown1 hbel1 hgr1))
          have hin : HasInts w5 (.slice (some ⟨b, o, none⟩) n cap) rest := by
            have h1 := (HR.out.reads.below ((Below.refl _ _).alloc (Nat.le_refl _) (.cells #[.int .i64 m] 3))).grown HG1.out HR.out.other
            rw [← HN.out] at h1
            exact h1
          refine (without_any _ rest m _ hin (by have := HN.out; omega)).mono ?_
          rintro _ w6 ⟨⟨v6, rfl, hown6⟩, hb6⟩
          have HO6 := Lib.hid hown6
          have HB6 := Lib.hid hb6
          have hlen6 : (rest.erase m).length < n := by
            rw [List.length_erase_of_mem HM1.out]
            have := HN.out
            omega
          clear hown6 hb6 hin
          go_wp2_with fail
          go_roundw
          case rel =>
            refine ⟨rest.erase m, ys ++ [m], (HasInts.of_own HO6.out).2, ?_, ?_, ?_, ?_, ?_, HB1.out.trans (HB6.out.mono HB1.out.size)⟩
            · have := ownsRow_later HO1.out HB6.out
              simpa [ints] using this
            · intro a' n' c' h hk
              have h1 := (ownBlock_lt HO1.out hk).2
              have h2 := (ownBlock_lt HO6.out (k := a'.block) (by rw [h]; rfl)).1
              omega
            · rw [List.append_assoc]
              exact (List.Perm.append_left ys (List.perm_cons_erase HM1.out).symm).trans HR.out.perm
            · unfold Up
              rw [List.pairwise_append]
              exact ⟨HR.out.up, by simp, fun x hx y hy => by simp at hy; subst hy; exact HR.out.le x hx _ HM1.out⟩
            · intro x hx y hy
              have hy' := List.mem_of_mem_erase hy
              rcases List.mem_append.1 hx with hx | hx
              · exact HR.out.le x hx y hy'
              · simp at hx; subst hx; exact HMIN.out y hy'
          case measure =>
            rcases HO6.out.2 with ⟨rfl, h⟩ | ⟨g, c, cur, rfl, h⟩
            · simp; omega
            · simpa using hlen6
    · have hn0 : n = 0 := by omega
      subst hn0
      go_wp2_with fail
      go_ret
      refine ⟨⟨_, ys, rfl, HR.out.own, ?_, HR.out.up⟩, HR.out.below⟩
      have := HR.out.perm
      rw [List.length_eq_zero_iff.1 HN.out.symm, List.append_nil] at this
      exact this

end Go.Proofs.YtgiehdlkgjmojaaDoor
