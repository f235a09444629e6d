/- The walk of math/bits.OnesCount32. -/
import Derived.Test.YtegibgflhhdddaaDoorOnesTab
namespace Go.Proofs.YtegibgflhhdddaaDoor
open Go.RowKit

theorem popN_le (n x : Nat) : popN n x ≤ n := by
  induction n with
  | zero => simp [popN]
  | succ n ih => simp only [popN]; split <;> omega

theorem popN_mod (n m x : Nat) (h : n ≤ m) : popN n (x % 2 ^ m) = popN n x := by
  induction n with
  | zero => rfl
  | succ n ih =>
    simp only [popN]
    rw [ih (by omega), Nat.testBit_mod_two_pow]
    simp [show n < m from by omega]

theorem popN_add (n m x : Nat) : popN (n + m) x = popN n x + popN m (x / 2 ^ n) := by
  induction m with
  | zero => simp [popN]
  | succ m ih =>
    rw [← Nat.add_assoc]
    simp only [popN]
    rw [ih, Nat.testBit_div_two_pow, Nat.add_comm n m]
    omega

theorem pop32 (x : Nat) : popN 32 x = popN 8 (x / 16777216) + popN 8 (x / 65536 % 256) + popN 8 (x / 256 % 256) + popN 8 (x % 256) := by
  rw [show (32 : Nat) = 8 + (8 + (8 + 8)) from rfl, popN_add, popN_add, popN_add, Nat.div_div_eq_div_mul, Nat.div_div_eq_div_mul]
  have e1 := popN_mod 8 8 x (Nat.le_refl _)
  have e2 := popN_mod 8 8 (x / 256) (Nat.le_refl _)
  have e3 := popN_mod 8 8 (x / 65536) (Nat.le_refl _)
  simp only [Nat.reducePow, Nat.reduceMul] at *
  omega

theorem and255 (a : Nat) (ha : a < 4294967296) : bits .and .u32 (a : Int) 255 = ((a % 256 : Nat) : Int) := by
  have := u32_and_nat a 255 ha (by omega)
  rw [nat_mask8] at this
  exact this

set_option maxHeartbeats 400000 in
set_option maxRecDepth 100000 in
theorem ones_walk (x : Nat) (w : World) (hx : x < 4294967296) :
    Calls Tryd.prog 46 #[.int .u32 (x : Nat)] w fun e w' => e = .returned (.int .i64 (popN 32 x : Nat)) ∧ ∃ n, w' = w.drewN n := by
  have H := Lib.hid (pop32 x)
  obtain ⟨b3, g3, h3, k3⟩ : ∃ b : Nat, (x : Int) / 16777216 = (b : Int) ∧ b < 256 ∧ b = x / 16777216 := ⟨x / 16777216, by omega, by omega, rfl⟩
  obtain ⟨b2, g2, h2, k2⟩ : ∃ b : Nat, bits .and .u32 ((x : Int) / 65536) 255 = (b : Int) ∧ b < 256 ∧ b = x / 65536 % 256 := ⟨x / 65536 % 256, by rw [show (x : Int) / 65536 = ((x / 65536 : Nat) : Int) from by omega]; exact and255 _ (by omega), by omega, rfl⟩
  obtain ⟨b1, g1, h1, k1⟩ : ∃ b : Nat, bits .and .u32 ((x : Int) / 256) 255 = (b : Int) ∧ b < 256 ∧ b = x / 256 % 256 := ⟨x / 256 % 256, by rw [show (x : Int) / 256 = ((x / 256 : Nat) : Int) from by omega]; exact and255 _ (by omega), by omega, rfl⟩
  obtain ⟨b0, g0, h0, k0⟩ : ∃ b : Nat, bits .and .u32 (x : Int) 255 = (b : Int) ∧ b < 256 ∧ b = x % 256 := ⟨x % 256, and255 _ hx, by omega, rfl⟩
  have p3 := pop_at b3 h3
  have p2 := pop_at b2 h2
  have p1 := pop_at b1 h1
  have p0 := pop_at b0 h0
  have l3 := popN_le 8 b3
  have l2 := popN_le 8 b2
  have l1 := popN_le 8 b1
  have l0 := popN_le 8 b0
  have K := Lib.hid (show popN 32 x = popN 8 b3 + popN 8 b2 + popN 8 b1 + popN 8 b0 from by rw [k3, k2, k1, k0]; exact H.out)
  generalize popN 8 b3 = c3 at *
  generalize popN 8 b2 = c2 at *
  generalize popN 8 b1 = c1 at *
  generalize popN 8 b0 = c0 at *
  clear H k3 k2 k1 k0
  have s1 : IntKind.u8.wrap ((c3 : Int) + (c2 : Int)) = (c3 : Int) + (c2 : Int) := by rw [IntKind.wrap_u8]; omega
  have s2 : IntKind.u8.wrap ((c3 : Int) + (c2 : Int) + (c1 : Int)) = (c3 : Int) + (c2 : Int) + (c1 : Int) := by rw [IntKind.wrap_u8]; omega
  have s3 : IntKind.u8.wrap ((c3 : Int) + (c2 : Int) + (c1 : Int) + (c0 : Int)) = (c3 : Int) + (c2 : Int) + (c1 : Int) + (c0 : Int) := by rw [IntKind.wrap_u8]; omega
  have s4 : IntKind.i64.wrap ((c3 : Int) + (c2 : Int) + (c1 : Int) + (c0 : Int)) = (c3 : Int) + (c2 : Int) + (c1 : Int) + (c0 : Int) := IntWalk.i64_in _ (by omega)
  go_enter Tryd.func46, Tryd.ntmps46
  go_wp2_with fail
  go_quiet (fail)
  go_wp2_with fail
  go_ret
  exact ⟨by rw [K.out]; congr 2 <;> push_cast <;> rfl, _, rfl⟩

end Go.Proofs.YtegibgflhhdddaaDoor
