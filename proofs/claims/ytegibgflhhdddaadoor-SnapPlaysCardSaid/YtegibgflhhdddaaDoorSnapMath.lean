/- Planes of bits: how many are set, the first that is not; and the volume's methods by one contract each. -/
import Derived.Test.YtegibgflhhdddaaDoorSnap4
namespace Go.Proofs.YtegibgflhhdddaaDoor
open Go.RowKit

theorem popN_congr {n x y : Nat} (h : ∀ j, j < n → x.testBit j = y.testBit j) : popN n x = popN n y := by
  induction n with
  | zero => rfl
  | succ n ih => simp only [popN]; rw [ih (fun j hj => h j (by omega)), h n (by omega)]

theorem popN_more {n x y i : Nat} (hi : i < n) (hx : x.testBit i = false) (hy : y.testBit i = true) (h : ∀ j, j < n → j ≠ i → x.testBit j = y.testBit j) : popN n y = popN n x + 1 := by
  induction n with
  | zero => omega
  | succ n ih =>
    simp only [popN]
    by_cases e : i = n
    · subst e
      rw [popN_congr (fun j hj => h j (by omega) (by omega)), hx, hy]
      simp
    · rw [ih (by omega) (fun j hj hne => h j (by omega) hne), h n (by omega) (fun e' => e e'.symm)]
      omega

theorem popN_mono {n x y : Nat} (h : ∀ j, j < n → x.testBit j = true → y.testBit j = true) : popN n x ≤ popN n y := by
  induction n with
  | zero => simp [popN]
  | succ n ih =>
    simp only [popN]
    have := ih (fun j hj => h j (by omega))
    have := h n (by omega)
    cases hx : x.testBit n <;> cases hy : y.testBit n <;> simp_all <;> omega

theorem bit_set (x i j : Nat) : (x ||| 2 ^ i).testBit j = (x.testBit j || decide (i = j)) := by rw [Nat.testBit_or, Nat.testBit_two_pow]
theorem bit_clear (x i j : Nat) (hi : i < 32) (hj : j < 32) : (x &&& (4294967295 - 2 ^ i)).testBit j = (x.testBit j && !decide (i = j)) := by
  have e1 : (4294967295 - 2 ^ i : Nat) = 2 ^ 32 - (2 ^ i + 1) := by have := pow_lt32 hi; omega
  rw [Nat.testBit_and, e1, Nat.testBit_two_pow_sub_succ (pow_lt32 hi), Nat.testBit_two_pow]
  simp [hj]

theorem bit_high {x j : Nat} (hx : x < 4294967296) (hj : 32 ≤ j) : x.testBit j = false :=
  Nat.testBit_lt_two_pow (Nat.lt_of_lt_of_le (show x < 2 ^ 32 from hx) (Nat.pow_le_pow_right (by omega) hj))

theorem bits_ext {x y : Nat} (hx : x < 4294967296) (hy : y < 4294967296) (h : ∀ j, j < 32 → x.testBit j = y.testBit j) : x = y := by
  apply Nat.eq_of_testBit_eq
  intro j
  by_cases hj : j < 32
  · exact h j hj
  · rw [bit_high hx (by omega), bit_high hy (by omega)]

theorem bits_length (x k : Nat) : (bitsTo x k).length = popN k x := by
  induction k with
  | zero => rfl
  | succ k ih =>
    simp only [popN]
    cases h : x.testBit k
    · rw [bitsTo_no h, ih]; simp
    · rw [bitsTo_yes h, List.length_append, ih]; simp

theorem mem_bits {x : Nat} {i : Int} : i ∈ bitsOf x ↔ ∃ j : Nat, i = j ∧ j < 32 ∧ x.testBit j = true := by
  unfold bitsOf
  simp only [List.mem_map, List.mem_filter, List.mem_range]
  constructor
  · rintro ⟨j, ⟨h1, h2⟩, rfl⟩; exact ⟨j, rfl, h1, h2⟩
  · rintro ⟨j, rfl, h1, h2⟩; exact ⟨j, ⟨h1, h2⟩, rfl⟩

theorem first_bits {a : Nat} (ha : a < 4294967296) (hne : a ≠ 4294967295) : Lib.ctz 32 (4294967295 - a) < 32 ∧ a.testBit (Lib.ctz 32 (4294967295 - a)) = false ∧ ∀ j, j < Lib.ctz 32 (4294967295 - a) → a.testBit j = true := by
  obtain ⟨-, hk⟩ := Lib.lowest_bit 32 (4294967295 - a) (by omega) (by omega)
  obtain ⟨m, hm, -⟩ := Lib.ctzFrom_spec 32 (4294967295 - a) (by omega) (by omega)
  have hc : Lib.ctz 32 (4294967295 - a) = Lib.ctzFrom 32 (4294967295 - a) := by unfold Lib.ctz; rw [if_neg (by omega)]
  rw [← hc] at hm
  generalize Lib.ctz 32 (4294967295 - a) = k at *
  have hbit : ∀ j, j < 32 → (4294967295 - a).testBit j = !a.testBit j := fun j hj => by
    have e1 : (4294967295 - a : Nat) = 2 ^ 32 - (a + 1) := by omega
    rw [e1, Nat.testBit_two_pow_sub_succ (by omega)]
    simp [hj]
  refine ⟨hk, ?_, fun j hj => ?_⟩
  · have h1 := hbit k hk
    rw [hm, Nat.testBit_two_pow_mul] at h1
    simp at h1
    exact h1
  · have h1 := hbit j (by omega)
    rw [hm, Nat.testBit_two_pow_mul] at h1
    have : ¬ (j ≥ k) := by omega
    simp [this] at h1
    exact h1

theorem all_bit (s : Vol) (j : Nat) : s.all.testBit j = (s.now.testBit j || (s.p 0).testBit j || (s.p 1).testBit j || (s.p 2).testBit j || (s.p 3).testBit j) := by
  unfold Vol.all
  simp [Nat.testBit_or]

/-- what Take tells and does -/
def TakeRel (s s' : Vol) (n : Nat) (ev : Value) : Prop :=
  (ev = .nilIface ∧ s.all ≠ 4294967295 ∧ n = s.first ∧ s' = s.setNow (s.now ||| 2 ^ s.first)) ∨ (ev = .iface 64 (.int .i64 4) ∧ s.all = 4294967295 ∧ n = 0 ∧ s' = s)

theorem take_any (g : Nat) (s : Vol) (w : World) (h : VolIs w g s) (hT : Tabled w) :
    Calls Tryd.prog 21 #[.pointer (some ⟨g, 0, none⟩)] w fun e w' => ∃ n ev s', e = .returned (.tuple #[.int .i64 (n : Nat), ev]) ∧ TakeRel s s' n ev ∧ VolIs w' g s' ∧ w.grownBy w' (some g) := by
  by_cases hf : s.all = 4294967295
  · exact (take_full g s w h hT hf).mono fun e w' ⟨h1, h2⟩ => ⟨0, _, s, h1, .inr ⟨rfl, hf, rfl, rfl⟩, h2 ▸ h, h2 ▸ World.grownBy.refl _ _⟩
  · exact (take_walk g s w h hT hf).mono fun e w' ⟨h1, h2, h3⟩ => ⟨_, _, _, h1, .inl ⟨rfl, hf, rfl, rfl⟩, h2, h3⟩

/-- what Leave tells and does -/
def LeaveRel (s s' : Vol) (i : Int) (ev : Value) : Prop :=
  (ev = .nilIface ∧ ∃ j : Nat, i = j ∧ j < 32 ∧ s.now.testBit j = true ∧ s' = s.setNow (s.now &&& (4294967295 - 2 ^ j))) ∨
  (∃ c : Int, ev = .iface 64 (.int .i64 c) ∧ s' = s ∧ ((c = 1 ∧ ¬ (0 ≤ i ∧ i ≤ 31)) ∨ (c = 5 ∧ ∃ j : Nat, i = j ∧ j < 32 ∧ s.now.testBit j = false)))

theorem leave_any (g : Nat) (s : Vol) (i : Int) (w : World) (h : VolIs w g s) :
    Calls Tryd.prog 22 #[.pointer (some ⟨g, 0, none⟩), .int .i64 i] w fun e w' => ∃ ev s', e = .returned ev ∧ LeaveRel s s' i ev ∧ VolIs w' g s' ∧ w.grownBy w' (some g) := by
  by_cases hi : 0 ≤ i ∧ i ≤ 31
  · obtain ⟨j, rfl⟩ : ∃ j : Nat, i = j := ⟨i.toNat, by omega⟩
    cases hb : s.now.testBit j
    · exact (leave_none g s j w h (by omega) hb).mono fun e w' ⟨h1, h2⟩ => ⟨_, s, h1, .inr ⟨5, rfl, rfl, .inr ⟨rfl, j, rfl, by omega, hb⟩⟩, h2 ▸ h, h2 ▸ World.grownBy.refl _ _⟩
    · exact (leave_walk g s j w h (by omega) hb).mono fun e w' ⟨h1, h2, h3⟩ => ⟨_, _, h1, .inl ⟨rfl, j, rfl, by omega, hb, rfl⟩, h2, h3⟩
  · exact (leave_bad _ i w hi).mono fun e w' ⟨h1, h2⟩ => ⟨_, s, h1, .inr ⟨1, rfl, rfl, .inl ⟨rfl, hi⟩⟩, h2 ▸ h, h2 ▸ World.grownBy.refl _ _⟩

/-- what Snap tells and does -/
def SnapRel (s s' : Vol) (k : Int) (ev : Value) : Prop :=
  (ev = .nilIface ∧ ∃ j : Nat, k = j ∧ j < 4 ∧ s.b j = false ∧ s' = s.setP j s.now true) ∨
  (∃ c : Int, ev = .iface 64 (.int .i64 c) ∧ s' = s ∧ ((c = 1 ∧ ¬ (0 ≤ k ∧ k ≤ 3)) ∨ (c = 6 ∧ ∃ j : Nat, k = j ∧ j < 4 ∧ s.b j = true)))

theorem snap_any (g : Nat) (s : Vol) (k : Int) (w : World) (h : VolIs w g s) :
    Calls Tryd.prog 24 #[.pointer (some ⟨g, 0, none⟩), .int .i64 k] w fun e w' => ∃ ev s', e = .returned ev ∧ SnapRel s s' k ev ∧ VolIs w' g s' ∧ w.grownBy w' (some g) := by
  by_cases hi : 0 ≤ k ∧ k ≤ 3
  · obtain ⟨j, rfl⟩ : ∃ j : Nat, k = j := ⟨k.toNat, by omega⟩
    cases hb : s.b j
    · exact (snap_walk g s j w h (by omega) hb).mono fun e w' ⟨h1, h2, h3⟩ => ⟨_, _, h1, .inl ⟨rfl, j, rfl, by omega, hb, rfl⟩, h2, h3⟩
    · exact (snap_clash g s j w h (by omega) hb).mono fun e w' ⟨h1, h2⟩ => ⟨_, s, h1, .inr ⟨6, rfl, rfl, .inr ⟨rfl, j, rfl, by omega, hb⟩⟩, h2 ▸ h, h2 ▸ World.grownBy.refl _ _⟩
  · exact (snap_bad _ k w hi).mono fun e w' ⟨h1, h2⟩ => ⟨_, s, h1, .inr ⟨1, rfl, rfl, .inl ⟨rfl, hi⟩⟩, h2 ▸ h, h2 ▸ World.grownBy.refl _ _⟩

/-- what Drop tells and does -/
def DropRel (s s' : Vol) (k : Int) (n : Int) (ev : Value) : Prop :=
  (ev = .nilIface ∧ ∃ j : Nat, k = j ∧ j < 4 ∧ s.b j = true ∧ s' = s.setP j 0 false ∧ n = (s'.free : Nat) - (s.free : Nat)) ∨
  (∃ c : Int, ev = .iface 64 (.int .i64 c) ∧ s' = s ∧ n = 0 ∧ ((c = 1 ∧ ¬ (0 ≤ k ∧ k ≤ 3)) ∨ (c = 5 ∧ ∃ j : Nat, k = j ∧ j < 4 ∧ s.b j = false)))

theorem drop_any (g : Nat) (s : Vol) (k : Int) (w : World) (h : VolIs w g s) :
    Calls Tryd.prog 25 #[.pointer (some ⟨g, 0, none⟩), .int .i64 k] w fun e w' => ∃ n ev s', e = .returned (.tuple #[.int .i64 n, ev]) ∧ DropRel s s' k n ev ∧ VolIs w' g s' ∧ w.grownBy w' (some g) := by
  by_cases hi : 0 ≤ k ∧ k ≤ 3
  · obtain ⟨j, rfl⟩ : ∃ j : Nat, k = j := ⟨k.toNat, by omega⟩
    cases hb : s.b j
    · exact (drop_none g s j w h (by omega) hb).mono fun e w' ⟨h1, h2⟩ => ⟨0, _, s, h1, .inr ⟨5, rfl, rfl, rfl, .inr ⟨rfl, j, rfl, by omega, hb⟩⟩, h2 ▸ h, h2 ▸ World.grownBy.refl _ _⟩
    · exact (drop_walk g s j w h (by omega) hb).mono fun e w' ⟨h1, h2, h3⟩ => ⟨_, _, _, h1, .inl ⟨rfl, j, rfl, by omega, hb, rfl, rfl⟩, h2, h3⟩
  · exact (drop_bad _ k w hi).mono fun e w' ⟨h1, h2⟩ => ⟨0, _, s, h1, .inr ⟨1, rfl, rfl, rfl, .inl ⟨rfl, hi⟩⟩, h2 ▸ h, h2 ▸ World.grownBy.refl _ _⟩

/-- what Turn tells and does -/
def TurnRel (s s' : Vol) (k : Int) (ev : Value) : Prop :=
  (ev = .nilIface ∧ ∃ j : Nat, k = j ∧ j < 4 ∧ s.b j = true ∧ s' = s.setNow (s.p j)) ∨
  (∃ c : Int, ev = .iface 64 (.int .i64 c) ∧ s' = s ∧ ((c = 1 ∧ ¬ (0 ≤ k ∧ k ≤ 3)) ∨ (c = 5 ∧ ∃ j : Nat, k = j ∧ j < 4 ∧ s.b j = false)))

theorem turn_any (g : Nat) (s : Vol) (k : Int) (w : World) (h : VolIs w g s) :
    Calls Tryd.prog 26 #[.pointer (some ⟨g, 0, none⟩), .int .i64 k] w fun e w' => ∃ ev s', e = .returned ev ∧ TurnRel s s' k ev ∧ VolIs w' g s' ∧ w.grownBy w' (some g) := by
  by_cases hi : 0 ≤ k ∧ k ≤ 3
  · obtain ⟨j, rfl⟩ : ∃ j : Nat, k = j := ⟨k.toNat, by omega⟩
    cases hb : s.b j
    · exact (turn_none g s j w h (by omega) hb).mono fun e w' ⟨h1, h2⟩ => ⟨_, s, h1, .inr ⟨5, rfl, rfl, .inr ⟨rfl, j, rfl, by omega, hb⟩⟩, h2 ▸ h, h2 ▸ World.grownBy.refl _ _⟩
    · exact (turn_walk g s j w h (by omega) hb).mono fun e w' ⟨h1, h2, h3⟩ => ⟨_, _, h1, .inl ⟨rfl, j, rfl, by omega, hb, rfl⟩, h2, h3⟩
  · exact (turn_bad _ k w hi).mono fun e w' ⟨h1, h2⟩ => ⟨_, s, h1, .inr ⟨1, rfl, rfl, .inl ⟨rfl, hi⟩⟩, h2 ▸ h, h2 ▸ World.grownBy.refl _ _⟩

/-- what Of tells -/
def ofList (s : Vol) (k : Int) : List Int := if 0 ≤ k ∧ k ≤ 3 then bitsOf (s.p k.toNat) else []

theorem of_any (g : Nat) (s : Vol) (k : Int) (w : World) (h : VolIs w g s) :
    Calls Tryd.prog 31 #[.pointer (some ⟨g, 0, none⟩), .int .i64 k] w fun e w' => (∃ v, e = .returned v ∧ HasInts w' v (ofList s k) ∧ Apart v g) ∧ Below w.heap.size w w' := by
  by_cases hi : 0 ≤ k ∧ k ≤ 3
  · obtain ⟨j, rfl⟩ : ∃ j : Nat, k = j := ⟨k.toNat, by omega⟩
    unfold ofList
    rw [if_pos hi, Int.toNat_natCast]
    exact of_walk g s j w h (by omega)
  · unfold ofList
    rw [if_neg hi]
    exact (of_bad _ k w hi).mono fun e w' ⟨h1, h2⟩ => ⟨⟨_, h1, HasInts.nil _, fun a n c e => by cases e⟩, h2 ▸ Below.refl _ _⟩

theorem p_of_all {s : Vol} {j k : Nat} (h : s.all.testBit j = false) (hk : k < 4) : (s.p k).testBit j = false := by
  rw [all_bit] at h
  simp only [Bool.or_eq_false_iff] at h
  obtain ⟨⟨⟨⟨-, h0⟩, h1⟩, h2⟩, h3⟩ := h
  rcases k with _ | _ | _ | _ | k
  · exact h0
  · exact h1
  · exact h2
  · exact h3
  · omega

theorem TakeRel.of {s s' : Vol} {n : Nat} {ev : Value} (h : TakeRel s s' n ev) (k : Int) : ofList s' k = ofList s k := by
  rcases h with ⟨-, -, -, rfl⟩ | ⟨-, -, -, rfl⟩ <;> rfl
theorem TakeRel.new {s s' : Vol} {n : Nat} (hs : s.ok) (h : TakeRel s s' n .nilIface) (k : Int) : (n : Int) ∉ ofList s k := by
  rcases h with ⟨-, h1, rfl, -⟩ | ⟨h, -⟩
  · obtain ⟨hk, hb, -⟩ := first_bits (Vol.all_lt hs) h1
    unfold ofList
    split
    · rename_i hi
      intro hm
      obtain ⟨j, e, hj, hbj⟩ := mem_bits.1 hm
      have : j = s.first := by omega
      subst this
      have := p_of_all (k := k.toNat) hb (by omega)
      unfold Vol.first at hbj
      rw [this] at hbj
      cases hbj
    · simp
  · cases h
theorem LeaveRel.of {s s' : Vol} {i : Int} {ev : Value} (h : LeaveRel s s' i ev) (k : Int) : ofList s' k = ofList s k := by
  rcases h with ⟨-, j, -, -, -, rfl⟩ | ⟨c, -, rfl, -⟩ <;> rfl

end Go.Proofs.YtegibgflhhdddaaDoor
