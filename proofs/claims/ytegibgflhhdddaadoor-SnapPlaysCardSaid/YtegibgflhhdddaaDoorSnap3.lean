/- The walks of the volume's methods that write: New, Take, Leave, Snap, Drop, Turn. -/
import Derived.Test.YtegibgflhhdddaaDoorSnap2
import Derived.RegionTactic
import Derived.BigRegion
namespace Go.Proofs.YtegibgflhhdddaaDoor
open Go.RowKit

def Vol.new : Vol := ⟨0, fun _ => 0, fun _ => false⟩
def Vol.setNow (s : Vol) (n : Nat) : Vol := { s with now := n }
def Vol.setP (s : Vol) (k p : Nat) (b : Bool) : Vol := { s with p := fun j => if j = k then p else s.p j, b := fun j => if j = k then b else s.b j }

theorem new_walk (w : World) : Calls Tryd.prog 17 #[] w fun e w' => e = .returned (.pointer (some ⟨w.heap.size, 0, none⟩)) ∧ VolIs w' w.heap.size Vol.new ∧ Below w.heap.size w w' := by
  go_enter Tryd.func17, Tryd.ntmps17
  go_wp2_with fail
  go_ret
  refine ⟨rfl, ⟨⟨by decide, fun _ => by show (0 : Nat) < _; decide, fun _ _ => rfl⟩, by simp, by simp [Vol.new], fun k hk => ?_, fun k hk => ?_, fun o => by simp⟩, (Below.refl _ _).alloc (Nat.le_refl _) _⟩
  · rw [World.cell?_alloc_at _ _ _ _ rfl]
    rcases k with _ | _ | _ | _ | k <;> first | rfl | omega
  · rw [World.cell?_alloc_at _ _ _ _ rfl]
    rcases k with _ | _ | _ | _ | k <;> first | rfl | omega

theorem setCell_grown (w : World) (a : Addr) (v : Value) : w.grownBy (w.setCell a v) (some a.block) :=
  ⟨rfl, rfl, rfl, by simp [World.setCell], fun k _ hk => Below.heap_setCell _ _ _ _ (fun e => hk (by rw [e]))⟩

theorem grownBy_trans {a b c : World} {g : Option Nat} (h : a.grownBy b g) (k : b.grownBy c g) : a.grownBy c g :=
  ⟨k.os.trans h.os, k.tape.trans h.tape, k.output.trans h.output, Nat.le_trans h.size k.size, fun i hi hne => (k.block i (Nat.lt_of_lt_of_le hi h.size) hne).trans (h.block i hi hne)⟩

theorem grownBy_drewN (w : World) (n : Nat) (g : Option Nat) : w.grownBy (w.drewN n) g := ⟨rfl, rfl, rfl, Nat.le_refl _, fun _ _ _ => rfl⟩

theorem volIs_setNow {w : World} {g : Nat} {s : Vol} (h : VolIs w g s) {n : Nat} (hn : n < 4294967296) : VolIs (w.setCell ⟨g, 0, none⟩ (.int .u32 (n : Nat))) g (s.setNow n) :=
  ⟨⟨hn, h.ok.2⟩, by simpa [World.setCell] using h.lt, World.cell?_setCell_same _ _ _ h.now,
    fun k hk => (World.cell?_setCell_other _ _ _ _ (by simp <;> omega)).trans (h.p k hk), fun k hk => (World.cell?_setCell_other _ _ _ _ (by simp <;> omega)).trans (h.b k hk),
    fun o => (World.frozen?_setCell _ _ _ _).trans (h.free o)⟩

/-- the first block that is in no plane -/
def Vol.first (s : Vol) : Nat := Lib.ctz 32 (4294967295 - s.all)

theorem not32 (x : Nat) (hx : x < 4294967296) : bits .xor .u32 IntKind.u32.max (x : Int) = ((4294967295 - x : Nat) : Int) := by
  have h := u32_xor_nat 4294967295 x (by omega) hx
  refine Eq.trans (by rfl) (h.trans ?_)
  congr 1
  apply Nat.eq_of_testBit_eq
  intro i
  have e1 : (4294967295 - x : Nat) = 2 ^ 32 - (x + 1) := by omega
  rw [Nat.testBit_xor, e1, Nat.testBit_two_pow_sub_succ (by omega), show (4294967295 : Nat) = 2 ^ 32 - 1 from rfl, Nat.testBit_two_pow_sub_one]
  by_cases hi : i < 32
  · simp [hi]
  · have : x.testBit i = false := Nat.testBit_lt_two_pow (Nat.lt_of_lt_of_le (show x < 2 ^ 32 from hx) (Nat.pow_le_pow_right (by omega) (by omega)))
    simp [hi, this]

theorem pow_lt32 {i : Nat} (hi : i < 32) : 2 ^ i < 4294967296 := Nat.pow_lt_pow_right (by omega) (show i < 32 from hi)
theorem pow_mod (i : Nat) (hi : i < 32) : (2 : Int) ^ i % 4294967296 = ((2 ^ i : Nat) : Int) := by
  have h := pow_lt32 hi
  have e : (2 : Int) ^ i = ((2 ^ i : Nat) : Int) := by push_cast; rfl
  rw [e]
  exact Int.emod_eq_of_lt (Int.natCast_nonneg _) (Int.ofNat_lt.2 h)
theorem or_pow (x i : Nat) (hx : x < 4294967296) (hi : i < 32) : bits .or .u32 (x : Int) ((2 : Int) ^ i % 4294967296) = ((x ||| 2 ^ i : Nat) : Int) := by
  rw [pow_mod i hi]
  exact u32_or_nat _ _ hx (pow_lt32 hi)
theorem andNot_pow (x i : Nat) (hx : x < 4294967296) (hi : i < 32) : bits .andNot .u32 (x : Int) ((2 : Int) ^ i % 4294967296) = ((x &&& (4294967295 - 2 ^ i) : Nat) : Int) := by
  rw [pow_mod i hi]
  exact u32_andNot_nat _ _ hx (pow_lt32 hi)

set_option maxHeartbeats 400000 in
set_option maxRecDepth 100000 in
theorem take_walk (g : Nat) (s : Vol) (w : World) (h : VolIs w g s) (hT : Tabled w) (hfull : s.all ≠ 4294967295) :
    Calls Tryd.prog 21 #[.pointer (some ⟨g, 0, none⟩)] w fun e w' => e = .returned (.tuple #[.int .i64 (s.first : Nat), .nilIface]) ∧ VolIs w' g (s.setNow (s.now ||| 2 ^ s.first)) ∧ w.grownBy w' (some g) := by
  have H := Lib.hid h
  have hall := Vol.all_lt h.ok
  have h0 := h.now
  have hf0 := h.free 0
  have o0 := h.ok.1
  clear h
  go_enter Tryd.func21, Tryd.ntmps21
  go_wp2_with fail
  refine (all_walk g s _ H.out).mono ?_
  rintro _ w1 ⟨rfl, rfl⟩
  have hn := not32 s.all hall
  have hfst : s.first < 32 := (Lib.lowest_bit 32 (4294967295 - s.all) (by omega) (by omega)).2
  go_wp2_with fail
  refine (tz_walk (4294967295 - s.all) _ (by omega) hT).mono ?_
  obtain ⟨i, hi⟩ : ∃ i, i = s.first := ⟨_, rfl⟩
  rw [show Lib.ctz 32 (4294967295 - s.all) = i from hi.symm]
  rw [← hi] at hfst
  have HI := Lib.hid hi
  have HHN := Lib.hid hn
  clear hn hi hT
  rintro _ w1 ⟨rfl, rfl⟩
  go_wp2_with fail
  have e5 := or_pow s.now i o0 hfst
  go_region
  clear e5
  go_wp2_with fail
  go_ret2
  rw [← HI.out]
  exact ⟨rfl, (volIs_setNow H.out (or_lt o0 (pow_lt32 hfst))).drewN 1, grownBy_trans (setCell_grown _ _ _) (grownBy_drewN _ 1 _)⟩


set_option maxHeartbeats 400000 in
theorem take_full (g : Nat) (s : Vol) (w : World) (h : VolIs w g s) (hT : Tabled w) (hfull : s.all = 4294967295) :
    Calls Tryd.prog 21 #[.pointer (some ⟨g, 0, none⟩)] w fun e w' => e = .returned (.tuple #[.int .i64 0, .iface 64 (.int .i64 4)]) ∧ w = w' := by
  have H := Lib.hid h
  have hn : bits .xor .u32 IntKind.u32.max (4294967295 : Int) = ((0 : Nat) : Int) := not32 4294967295 (by omega)
  have HT := Lib.hid hT
  have HA := Lib.hid hfull
  clear h hT hfull
  go_enter Tryd.func21, Tryd.ntmps21
  go_wp2_with fail
  refine (all_walk g s _ H.out).mono ?_
  rw [HA.out]
  rintro _ w1 ⟨rfl, rfl⟩
  go_wp2_with fail
  refine (tz_walk 0 _ (by omega) HT.out).mono ?_
  rw [show Lib.ctz 32 0 = 32 from rfl]
  rintro _ w1 ⟨rfl, rfl⟩
  go_wp2_with fail
  go_ret2
  exact ⟨rfl, rfl⟩

set_option maxHeartbeats 400000 in
set_option maxRecDepth 100000 in
theorem leave_walk (g : Nat) (s : Vol) (i : Nat) (w : World) (h : VolIs w g s) (hi : i < 32) (hb : s.now.testBit i = true) :
    Calls Tryd.prog 22 #[.pointer (some ⟨g, 0, none⟩), .int .i64 (i : Nat)] w fun e w' => e = .returned .nilIface ∧ VolIs w' g (s.setNow (s.now &&& (4294967295 - 2 ^ i))) ∧ w.grownBy w' (some g) := by
  have H := Lib.hid h
  have h0 := h.now
  have hf0 := h.free 0
  have o0 := h.ok.1
  have D := Lib.hid (show decide ((0 : Int) ≤ (i : Int) ∧ (i : Int) ≤ 31) = true from decide_eq_true (by omega))
  have e1 := bit_ask s.now i o0
  rw [if_pos hb] at e1
  have hlt : s.now &&& (4294967295 - 2 ^ i) < 4294967296 := Nat.lt_of_le_of_lt Nat.and_le_left o0
  clear h hb
  go_enter Tryd.func22, Tryd.ntmps22
  go_wp2_with fail
  refine (within_anyS _ _ _ _).mono ?_
  rw [D.out]
  rintro _ w1 ⟨rfl, rfl⟩
  go_wp2_with fail
  have e5 := andNot_pow s.now i o0 hi
  go_region
  clear e5
  go_wp2_with fail
  go_ret
  exact ⟨rfl, (volIs_setNow H.out hlt).drewN 1, grownBy_trans (setCell_grown _ _ _) (grownBy_drewN _ 1 _)⟩

set_option maxHeartbeats 400000 in
set_option maxRecDepth 100000 in
theorem leave_none (g : Nat) (s : Vol) (i : Nat) (w : World) (h : VolIs w g s) (hi : i < 32) (hb : s.now.testBit i = false) :
    Calls Tryd.prog 22 #[.pointer (some ⟨g, 0, none⟩), .int .i64 (i : Nat)] w fun e w' => e = .returned (.iface 64 (.int .i64 5)) ∧ w = w' := by
  have h0 := h.now
  have o0 := h.ok.1
  have D := Lib.hid (show decide ((0 : Int) ≤ (i : Int) ∧ (i : Int) ≤ 31) = true from decide_eq_true (by omega))
  have e1 := bit_ask s.now i o0
  rw [if_neg (by simp [hb])] at e1
  clear h hb
  go_enter Tryd.func22, Tryd.ntmps22
  go_wp2_with fail
  refine (within_anyS _ _ _ _).mono ?_
  rw [D.out]
  rintro _ w1 ⟨rfl, rfl⟩
  go_wp2_with fail
  go_ret
  exact ⟨rfl, rfl⟩

theorem leave_bad (a : Value) (i : Int) (w : World) (h : ¬ (0 ≤ i ∧ i ≤ 31)) :
    Calls Tryd.prog 22 #[a, .int .i64 i] w fun e w' => e = .returned (.iface 64 (.int .i64 1)) ∧ w = w' := by
  have D := Lib.hid (decide_eq_false h)
  clear h
  go_enter Tryd.func22, Tryd.ntmps22
  go_wp2_with fail
  refine (within_anyS _ _ _ _).mono ?_
  rw [D.out]
  rintro _ w1 ⟨rfl, rfl⟩
  go_wp2_with fail
  go_ret
  exact ⟨rfl, rfl⟩

theorem volIs_setP1 {w : World} {g : Nat} {s : Vol} (h : VolIs w g s) {k p : Nat} {b : Bool} (hk : k < 4) (hp : p < 4294967296) (hb : b = false → p = 0) :
    VolIs ((w.setCell ⟨g, 1 + k, none⟩ (.int .u32 (p : Nat))).setCell ⟨g, 5 + k, none⟩ (.bool b)) g (s.setP k p b) := by
  refine ⟨⟨h.ok.1, fun j => ?_, fun j => ?_⟩, by simpa [World.setCell] using h.lt, ?_, fun j hj => ?_, fun j hj => ?_, fun o => ?_⟩
  · simp only [Vol.setP]; split
    · exact hp
    · exact h.ok.2.1 j
  · simp only [Vol.setP]; split
    · exact hb
    · exact h.ok.2.2 j
  · rw [World.cell?_setCell_other _ _ _ _ (by simp <;> omega), World.cell?_setCell_other _ _ _ _ (by simp <;> omega)]; exact h.now
  · rw [World.cell?_setCell_other _ _ _ _ (by simp <;> omega)]
    simp only [Vol.setP]
    split
    · rename_i e; subst e
      exact World.cell?_setCell_same _ _ _ (h.p j hj)
    · rename_i e
      rw [World.cell?_setCell_other _ _ _ _ (by simp <;> omega)]; exact h.p j hj
  · simp only [Vol.setP]
    split
    · rename_i e; subst e
      exact World.cell?_setCell_same _ _ _ ((World.cell?_setCell_other _ _ _ _ (by simp <;> omega)).trans (h.b j hj))
    · rename_i e
      rw [World.cell?_setCell_other _ _ _ _ (by simp <;> omega), World.cell?_setCell_other _ _ _ _ (by simp <;> omega)]; exact h.b j hj
  · rw [World.frozen?_setCell, World.frozen?_setCell]; exact h.free o

end Go.Proofs.YtegibgflhhdddaaDoor
