/- The walks of the volume's methods that read: TrailingZeros32, Free, list, Now, Of; the check of a number. -/
import Derived.Test.YtegibgflhhdddaaDoorSnap1
import Derived.Test.YtegibgflhhdddaaDoorOnes
namespace Go.Proofs.YtegibgflhhdddaaDoor
open Go.RowKit

/-- the table of math/bits lies where it lies -/
def Tabled (w : World) : Prop := ∀ i, i < 32 → w.cell? ⟨0, i, none⟩ = some (.int .u8 (Lib.deBruijn32tab.getD i 0 : Nat))

theorem Tabled.lt {w : World} (h : Tabled w) : 0 < w.heap.size := by
  have h0 := h 0 (by omega)
  exact World.block_lt_of_cell? w _ h0

theorem Tabled.below {w w' : World} (h : Tabled w) (hb : Below w.heap.size w w') : Tabled w' := by
  intro i hi
  rw [hb.cell (p := ⟨0, i, none⟩) h.lt]
  exact h i hi

theorem Tabled.drewN {w : World} (h : Tabled w) (n : Nat) : Tabled (w.drewN n) := h

theorem tz_key (x a : Nat) (hx : x < 4294967296) (hx0 : x ≠ 0) (hlow : x &&& (4294967296 - x) = a) :
    bits BinOp.and IntKind.u32 (x : Int) (-(x : Int) % 4294967296) * 125613361 % 4294967296 / 134217728 = ((a * 125613361 % 4294967296 / 134217728 : Nat) : Int) := by
  have e1 : -(x : Int) % 4294967296 = ((4294967296 - x : Nat) : Int) := by omega
  rw [e1, u32_and_nat x _ hx (by omega), hlow]
  omega

set_option maxHeartbeats 400000 in
theorem tz_walk (x : Nat) (w : World) (hx : x < 4294967296) (hT : Tabled w) :
    Calls Tryd.prog 43 #[.int .u32 (x : Nat)] w fun e w' => e = .returned (.int .i64 (Lib.ctz 32 x : Nat)) ∧ w = w' := by
  by_cases hx0 : x = 0
  · subst hx0
    go_enter Tryd.func43, Tryd.ntmps43
    go_wp2_with fail
    go_ret
    exact ⟨rfl, rfl⟩
  · obtain ⟨hlow, hk⟩ := Lib.lowest_bit 32 x hx0 hx
    obtain ⟨hi, htab⟩ := Lib.deBruijn32_at _ hk
    have hcell := hT _ hi
    rw [htab] at hcell
    have q0 : ((x : Int) == 0) = false := beq_eq_false_iff_ne.2 (by omega)
    have key := tz_key x _ hx hx0 hlow
    obtain ⟨k, hkk⟩ : ∃ k, k = Lib.ctz 32 x := ⟨_, rfl⟩
    obtain ⟨idx, hidx⟩ : ∃ idx, idx = 2 ^ Lib.ctz 32 x * 125613361 % 4294967296 / 134217728 := ⟨_, rfl⟩
    rw [← hidx] at hcell key hi
    rw [← hkk] at hcell hk ⊢
    clear hkk hidx htab hlow hT
    go_enter Tryd.func43, Tryd.ntmps43
    go_wp2_with (simp only [key])
    go_ret
    exact ⟨rfl, rfl⟩

/-- how many blocks are in no plane -/
def Vol.free (s : Vol) : Nat := 32 - popN 32 s.all

theorem Vol.all_lt {s : Vol} (h : s.ok) : s.all < 4294967296 := or_lt (or_lt (or_lt (or_lt h.1 (h.2.1 0)) (h.2.1 1)) (h.2.1 2)) (h.2.1 3)

theorem VolIs.below {w w' : World} {g : Nat} {s : Vol} (h : VolIs w g s) (hb : Below w.heap.size w w') : VolIs w' g s :=
  ⟨h.ok, Nat.lt_of_lt_of_le h.lt hb.size, by rw [hb.cell (p := ⟨g, 0, none⟩) h.lt]; exact h.now, fun k hk => by rw [hb.cell (p := ⟨g, 1 + k, none⟩) h.lt]; exact h.p k hk,
    fun k hk => by rw [hb.cell (p := ⟨g, 5 + k, none⟩) h.lt]; exact h.b k hk, fun o => by rw [hb.frozen (p := ⟨g, o, none⟩) h.lt]; exact h.free o⟩

theorem VolIs.drewN {w : World} {g : Nat} {s : Vol} (h : VolIs w g s) (n : Nat) : VolIs (w.drewN n) g s := h.below (below_drewN' w n)

set_option maxHeartbeats 400000 in
theorem free_walk (g : Nat) (s : Vol) (w : World) (h : VolIs w g s) :
    Calls Tryd.prog 27 #[.pointer (some ⟨g, 0, none⟩)] w fun e w' => e = .returned (.int .i64 (s.free : Nat)) ∧ ∃ n, w' = w.drewN n := by
  have hlt := Vol.all_lt h.ok
  go_enter Tryd.func27, Tryd.ntmps27
  go_wp2_with fail
  refine (all_walk g s _ h).mono ?_
  rintro _ w1 ⟨rfl, rfl⟩
  clear h
  go_wp2_with fail
  refine (ones_walk s.all _ hlt).mono ?_
  have hle := popN_le 32 s.all
  have HF := Lib.hid (show s.free = 32 - popN 32 s.all from rfl)
  generalize popN 32 s.all = c at *
  rintro _ w1 ⟨rfl, d, rfl⟩
  clear hlt
  go_wp2_with fail
  go_ret
  exact ⟨by rw [HF.out]; exact congrArg (fun n => Ending.returned (.int .i64 n)) (by omega), _, rfl⟩

/-- the numbers of the bits that are set -/
def bitsOf (x : Nat) : List Int := ((List.range 32).filter fun i => x.testBit i).map Int.ofNat
def bitsTo (x k : Nat) : List Int := ((List.range k).filter fun i => x.testBit i).map Int.ofNat

theorem bitsTo_yes {x k : Nat} (h : x.testBit k = true) : bitsTo x (k + 1) = bitsTo x k ++ [(k : Int)] := by
  unfold bitsTo
  rw [List.range_succ, List.filter_append]
  simp [h]
theorem bitsTo_no {x k : Nat} (h : x.testBit k = false) : bitsTo x (k + 1) = bitsTo x k := by
  unfold bitsTo
  rw [List.range_succ, List.filter_append]
  simp [h]
theorem bitsTo_le (x k : Nat) : (bitsTo x k).length ≤ k := by
  unfold bitsTo
  rw [List.length_map]
  have := List.length_filter_le (fun i => x.testBit i) (List.range k)
  simp at this
  exact this

theorem infoIntS : (Tryd.prog.info? 3).map (fun i => (i.zero, i.size, i.bytes)) = some (some (.int .i64 0), 1, 8) := by kernel_rfl

/-- the bit of a number, as the program asks for it -/
theorem bit_ask (x k : Nat) (hx : x < 4294967296) : bits .and .u32 ((x : Int) / 2 ^ k) 1 = ((if x.testBit k then 1 else 0 : Nat) : Int) := by
  have e : (x : Int) / 2 ^ k = ((x / 2 ^ k : Nat) : Int) := by push_cast; rfl
  have hlt : x / 2 ^ k < 4294967296 := Nat.lt_of_le_of_lt (Nat.div_le_self _ _) hx
  have := u32_and_nat (x / 2 ^ k) 1 hlt (by omega)
  rw [nat_mask1] at this
  rw [e]
  refine this.trans ?_
  rw [Nat.testBit_eq_decide_div_mod_eq]
  by_cases h : x / 2 ^ k % 2 = 1
  · simp [h]
  · have h0 : x / 2 ^ k % 2 = 0 := by omega
    simp [h0]

set_option maxHeartbeats 400000 in
set_option maxRecDepth 100000 in
theorem list_walk (x : Nat) (w : World) (hx : x < 4294967296) :
    Calls Tryd.prog 47 #[.int .u32 (x : Nat)] w fun e w' => (∃ v, e = .returned v ∧ w'.ownsRow w.heap.size 3 1 v (bitsOf x).length (ints (bitsOf x))) ∧ Below w.heap.size w w' := by
  go_enter Tryd.func47, Tryd.ntmps47
  go_wp2_with fail
  go_loopw [3, 5] (fun v i wr => ∃ k : Nat, k ≤ 32 ∧ i = .int .i64 k ∧ wr.ownsRow w.heap.size 3 1 v (bitsTo x k).length (ints (bitsTo x k)) ∧ Below w.heap.size w wr) (fun _ i _ => 32 - (intOf i).toNat)
  case atStart => exact ⟨0, by omega, rfl, World.ownsRow_nil .., Below.refl ..⟩
  case round =>
    obtain ⟨k, hk, rfl, hown, hb⟩ := hrel
    have HOWN := Lib.hid hown
    have HB := Lib.hid hb
    have HN1 := Lib.hid (show (bitsTo x k).length + 1 ≤ maxLen from by have := bitsTo_le x k; unfold maxLen; omega)
    have HN2 := Lib.hid (show ((bitsTo x k).length + 1) * 8 ≤ 140737488355328 from by have := bitsTo_le x k; omega)
    clear hown hb
    by_cases hlt : k < 32
    · have hbit := bit_ask x k hx
      by_cases ht : x.testBit k = true
      · rw [if_pos ht] at hbit
        have HT := Lib.hid ht
        clear ht
        go_wp2_with (at_builtin; go_must (refine wpList_push (.int .i64 0) 8 HOWN.out Tryd.underlying25 infoIntS rfl rfl rfl rfl HN1.out HN2.out HB.out.size ?_; intro v' w5 hown1 hbel1 _; have HO1 := Lib.hid hown1; have HB1 := Lib.hid (HB.out.trans hbel1); clear hown1 hbel1))
        go_roundw
        case rel => exact ⟨k + 1, by omega, by go_num, by rw [bitsTo_yes HT.out]; simpa [ints] using HO1.out, HB1.out⟩
        case measure => simp [intOf]; omega
      · rw [if_neg ht] at hbit
        have HT := Lib.hid (show x.testBit k = false from by simpa using ht)
        clear ht
        go_wp2_with fail
        go_roundw
        case rel => exact ⟨k + 1, by omega, by go_num, by rw [bitsTo_no HT.out]; exact HOWN.out, HB.out⟩
        case measure => simp [intOf]; omega
    · obtain rfl : k = 32 := by omega
      go_wp2_with fail
      go_ret
      exact ⟨⟨_, rfl, HOWN.out⟩, HB.out⟩

theorem within_anyS (a b c : Int) (w : World) :
    Calls Tryd.prog 38 #[.int .i64 a, .int .i64 b, .int .i64 c] w fun e w' => e = .returned (.bool (decide (b ≤ a ∧ a ≤ c))) ∧ w = w' := by
  by_cases h1 : b ≤ a
  · have q1 : decide (b ≤ a) = true := decide_eq_true h1
    by_cases h2 : a ≤ c
    · have q2 : decide (a ≤ c) = true := decide_eq_true h2
      go_enter Tryd.func38, Tryd.ntmps38
      go_wp2
      go_ret
      exact ⟨by simp [h1, h2], rfl⟩
    · have q2 : decide (a ≤ c) = false := decide_eq_false h2
      go_enter Tryd.func38, Tryd.ntmps38
      go_wp2
      go_ret
      exact ⟨by simp, rfl⟩
  · have q1 : decide (b ≤ a) = false := decide_eq_false h1
    go_enter Tryd.func38, Tryd.ntmps38
    go_wp2
    go_ret
    exact ⟨by simp, rfl⟩

/-- the check of a snapshot's number -/
theorem num_ok (k : Int) (w : World) (h : 0 ≤ k ∧ k ≤ 3) : Calls Tryd.prog 45 #[.int .i64 k] w fun e w' => e = .returned .nilIface ∧ w = w' := by
  have D := Lib.hid (decide_eq_true h)
  clear h
  go_enter Tryd.func45, Tryd.ntmps45
  go_wp2_with fail
  refine (within_anyS _ _ _ _).mono ?_
  rw [D.out]
  rintro _ w1 ⟨rfl, rfl⟩
  go_wp2_with fail
  go_ret
  exact ⟨rfl, rfl⟩
theorem num_bad (k : Int) (w : World) (h : ¬ (0 ≤ k ∧ k ≤ 3)) : Calls Tryd.prog 45 #[.int .i64 k] w fun e w' => e = .returned (.iface 64 (.int .i64 1)) ∧ w = w' := by
  have D := Lib.hid (decide_eq_false h)
  clear h
  go_enter Tryd.func45, Tryd.ntmps45
  go_wp2_with fail
  refine (within_anyS _ _ _ _).mono ?_
  rw [D.out]
  rintro _ w1 ⟨rfl, rfl⟩
  go_wp2_with fail
  go_ret
  exact ⟨rfl, rfl⟩

/-- the row of a slice is none of block g's -/
def Apart (v : Value) (g : Nat) : Prop := ∀ a n c, v = .slice (some a) n c → a.block ≠ g

theorem apart_own {w : World} {base : Nat} {e : TypeId} {size : Nat} {v : Value} {n : Nat} {xs : List Value} (h : w.ownsRow base e size v n xs) {g : Nat} (hg : g < base) : Apart v g := by
  intro a n' c hv he
  have := (h.lt a.block (by rw [hv]; rfl)).1
  omega

theorem now_walk (g : Nat) (s : Vol) (w : World) (h : VolIs w g s) :
    Calls Tryd.prog 29 #[.pointer (some ⟨g, 0, none⟩)] w fun e w' => (∃ v, e = .returned v ∧ HasInts w' v (bitsOf s.now) ∧ Apart v g) ∧ Below w.heap.size w w' := by
  have h0 := h.now
  have hlt := h.ok.1
  have HG := Lib.hid h.lt
  clear h
  go_enter Tryd.func29, Tryd.ntmps29
  go_wp2_with fail
  refine (list_walk s.now _ hlt).mono ?_
  rintro _ w1 ⟨⟨v, rfl, hown⟩, hb⟩
  have HO := Lib.hid (HasInts.of_own hown).2
  have HA := Lib.hid (apart_own hown HG.out)
  have HB := Lib.hid hb
  clear hown hb
  go_wp2_with fail
  go_ret
  exact ⟨⟨_, rfl, HO.out, HA.out⟩, HB.out⟩

theorem of_walk (g : Nat) (s : Vol) (k : Nat) (w : World) (h : VolIs w g s) (hk : k < 4) :
    Calls Tryd.prog 31 #[.pointer (some ⟨g, 0, none⟩), .int .i64 (k : Nat)] w fun e w' => (∃ v, e = .returned v ∧ HasInts w' v (bitsOf (s.p k)) ∧ Apart v g) ∧ Below w.heap.size w w' := by
  have h0 := h.p k hk
  have hlt := h.ok.2.1 k
  have HG := Lib.hid h.lt
  clear h
  go_enter Tryd.func31, Tryd.ntmps31
  go_wp2_with fail
  refine (num_ok _ _ (by omega)).mono ?_
  rintro _ w1 ⟨rfl, rfl⟩
  go_wp2_with fail
  refine (list_walk (s.p k) _ hlt).mono ?_
  rintro _ w1 ⟨⟨v, rfl, hown⟩, hb⟩
  have HO := Lib.hid (HasInts.of_own hown).2
  have HA := Lib.hid (apart_own hown HG.out)
  have HB := Lib.hid hb
  clear hown hb
  go_wp2_with fail
  go_ret
  exact ⟨⟨_, rfl, HO.out, HA.out⟩, HB.out⟩

theorem of_bad (a : Value) (k : Int) (w : World) (h : ¬ (0 ≤ k ∧ k ≤ 3)) :
    Calls Tryd.prog 31 #[a, .int .i64 k] w fun e w' => e = .returned (.slice none 0 0) ∧ w = w' := by
  go_enter Tryd.func31, Tryd.ntmps31
  go_wp2_with fail
  refine (num_bad _ _ h).mono ?_
  rintro _ w1 ⟨rfl, rfl⟩
  go_wp2_with fail
  go_ret
  exact ⟨rfl, rfl⟩

end Go.Proofs.YtegibgflhhdddaaDoor
