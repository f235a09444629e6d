/- The walks of get, Get, Sizes. -/
import Derived.Test.YtaoekllajnnbjaaDoorDedup2
namespace Go.Proofs.YtaoekllajnnbjaaDoor
open Go.RowKit Go.MapKept

theorem within_anyD (a b c : Int) (w : World) :
    Calls Tryd.prog 19 #[.int .i64 a, .int .i64 b, .int .i64 c] w fun e w' => e = .returned (.bool (decide (b ≤ a ∧ a ≤ c))) ∧ w = w' := by
  by_cases h1 : b ≤ a
  · have q1 : decide (b ≤ a) = true := decide_eq_true h1
    by_cases h2 : a ≤ c
    · have q2 : decide (a ≤ c) = true := decide_eq_true h2
      go_enter Tryd.func19, Tryd.ntmps19
      go_wp2
      go_ret
      exact ⟨by simp [h1, h2], rfl⟩
    · have q2 : decide (a ≤ c) = false := decide_eq_false h2
      go_enter Tryd.func19, Tryd.ntmps19
      go_wp2
      go_ret
      exact ⟨by simp, rfl⟩
  · have q1 : decide (b ≤ a) = false := decide_eq_false h1
    go_enter Tryd.func19, Tryd.ntmps19
    go_wp2
    go_ret
    exact ⟨by simp, rfl⟩

/-- why a number is no chunk's -/
def NoChunk (s : St) (id : Int) (c : Int) : Prop := (c = 1 ∧ ¬ (0 ≤ id ∧ id ≤ (s.C.length : Int) - 1)) ∨ (c = 5 ∧ ∃ (i : Nat) (t : ByteArray), id = i ∧ s.C[i]? = some (t, 0))

/-- the row of the chunks -/
def RowAt (w : World) (base g r : Nat) (s : St) : Prop := ∃ cap, w.cell? ⟨g, 0, none⟩ = some (.slice (some ⟨r, 0, none⟩) s.C.length cap) ∧ w.ownsRow base 54 2 (.slice (some ⟨r, 0, none⟩) s.C.length cap) s.C.length (chunksV s.C)

theorem StoreIs.len {w : World} {B base g : Nat} {s : St} (hs : StoreIs w B base g s) : ∃ va cap, w.cell? ⟨g, 0, none⟩ = some (.slice va s.C.length cap) := by
  obtain ⟨v, b, hB, hb, hbg, h0, hown, h1, hm⟩ := hs.cells
  rcases hown.2 with ⟨rfl, h⟩ | ⟨g', cap', cur, rfl, -⟩
  · exact ⟨none, 0, by rw [h]; exact h0⟩
  · exact ⟨_, _, h0⟩
theorem StoreIs.row {w : World} {B base g : Nat} {s : St} (hs : StoreIs w B base g s) (h : 0 < s.C.length) : ∃ r, RowAt w base g r s := by
  obtain ⟨v, b, hB, hb, hbg, h0, hown, h1, hm⟩ := hs.cells
  obtain ⟨r, cap, rfl, hbr, hrw⟩ := hown.form h
  exact ⟨r, cap, h0, hown⟩

set_option maxHeartbeats 1000000 in
theorem dget_ok (w : World) (B base g : Nat) (s : St) (i k : Nat) (t : ByteArray) (hs : StoreIs w B base g s) (hi : s.C[i]? = some (t, k)) (hk : 0 < k) :
    Calls Tryd.prog 15 #[.pointer (some ⟨g, 0, none⟩), .int .i64 (i : Nat)] w fun e w' => (∃ r, e = .returned (.tuple #[.pointer (some ⟨r, i * 2, none⟩), .nilIface]) ∧ RowAt w base g r s) ∧ w = w' := by
  have hlt := (List.getElem?_eq_some_iff.1 hi).1
  obtain ⟨r, hrow⟩ := hs.row (by omega)
  have HR := Lib.hid hrow
  obtain ⟨cap, h0, hown⟩ := hrow
  have hcc := hown.cellAt (i * 2 + 1) (by omega)
  rw [chunksV_count hi] at hcc
  simp only at hcc
  have hl := hs.ok.len
  obtain ⟨n, hn⟩ : ∃ n, n = s.C.length := ⟨_, rfl⟩
  rw [← hn] at h0 hlt hl
  have q2 : ((k : Int) == 0) = false := beq_eq_false_iff_ne.2 (by omega)
  have D := Lib.hid (decide_eq_true (show (0 : Int) ≤ (i : Int) ∧ (i : Int) ≤ (n : Int) - 1 by omega))
  clear hs hn hown hi
  go_enter Tryd.func15, Tryd.ntmps15
  go_wp2_with fail
  refine (within_anyD _ _ _ _).mono ?_
  rw [D.out]
  rintro _ w1 ⟨rfl, rfl⟩
  go_wp2_with fail
  go_ret2
  exact ⟨⟨r, rfl, HR.out⟩, rfl⟩

set_option maxHeartbeats 1000000 in
theorem dget_no (w : World) (B base g : Nat) (s : St) (id c : Int) (hid : -9223372036854775808 ≤ id ∧ id ≤ 9223372036854775807) (hs : StoreIs w B base g s) (hi : NoChunk s id c) :
    Calls Tryd.prog 15 #[.pointer (some ⟨g, 0, none⟩), .int .i64 id] w fun e w' => e = .returned (.tuple #[.pointer none, .iface 48 (.int .i64 c)]) ∧ w = w' := by
  have hl := hs.ok.len
  rcases hi with ⟨rfl, hbad⟩ | ⟨rfl, i, t, rfl, hi⟩
  · obtain ⟨va, cap, h0⟩ := hs.len
    obtain ⟨n, hn⟩ : ∃ n, n = s.C.length := ⟨_, rfl⟩
    rw [← hn] at h0 hl hbad
    have D := Lib.hid (decide_eq_false hbad)
    clear hs hn hbad
    go_enter Tryd.func15, Tryd.ntmps15
    go_wp2_with fail
    refine (within_anyD _ _ _ _).mono ?_
    rw [D.out]
    rintro _ w1 ⟨rfl, rfl⟩
    go_wp2_with fail
    go_ret2
    exact ⟨rfl, rfl⟩
  · have hlt := (List.getElem?_eq_some_iff.1 hi).1
    obtain ⟨r, cap, h0, hown⟩ := hs.row (by omega)
    have hcc := hown.cellAt (i * 2 + 1) (by omega)
    rw [chunksV_count hi] at hcc
    simp only [Int.natCast_zero] at hcc
    obtain ⟨n, hn⟩ : ∃ n, n = s.C.length := ⟨_, rfl⟩
    rw [← hn] at h0 hlt hl
    have D := Lib.hid (decide_eq_true (show (0 : Int) ≤ (i : Int) ∧ (i : Int) ≤ (n : Int) - 1 by omega))
    clear hs hn hown hi
    go_enter Tryd.func15, Tryd.ntmps15
    go_wp2_with fail
    refine (within_anyD _ _ _ _).mono ?_
    rw [D.out]
    rintro _ w1 ⟨rfl, rfl⟩
    go_wp2_with fail
    go_ret2
    exact ⟨rfl, rfl⟩

set_option maxHeartbeats 1000000 in
theorem Get_ok (w : World) (B base g : Nat) (s : St) (i k : Nat) (t : ByteArray) (hs : StoreIs w B base g s) (hi : s.C[i]? = some (t, k)) (hk : 0 < k) :
    Calls Tryd.prog 12 #[.pointer (some ⟨g, 0, none⟩), .int .i64 (i : Nat)] w fun e w' => e = .returned (.tuple #[.string t, .nilIface]) ∧ w = w' := by
  have HS := Lib.hid hs
  have HI := Lib.hid hi
  clear hs hi
  go_enter Tryd.func12, Tryd.ntmps12
  go_wp2_with fail
  refine (dget_ok _ B base g s i k t HS.out HI.out hk).mono ?_
  rintro _ w1 ⟨⟨r, rfl, cap, h0, hown⟩, rfl⟩
  have hcc := hown.cellAt (i * 2) (by have := (List.getElem?_eq_some_iff.1 HI.out).1; omega)
  rw [chunksV_text HI.out] at hcc
  simp only at hcc
  clear hown h0
  go_wp2_with fail
  go_ret2
  exact ⟨rfl, rfl⟩

set_option maxHeartbeats 1000000 in
theorem Get_no (w : World) (B base g : Nat) (s : St) (id c : Int) (hid : -9223372036854775808 ≤ id ∧ id ≤ 9223372036854775807) (hs : StoreIs w B base g s) (hi : NoChunk s id c) :
    Calls Tryd.prog 12 #[.pointer (some ⟨g, 0, none⟩), .int .i64 id] w fun e w' => e = .returned (.tuple #[.string ByteArray.empty, .iface 48 (.int .i64 c)]) ∧ w = w' := by
  have HS := Lib.hid hs
  have HI := Lib.hid hi
  clear hs hi
  go_enter Tryd.func12, Tryd.ntmps12
  go_wp2_with fail
  refine (dget_no _ B base g s id c hid HS.out HI.out).mono ?_
  rintro _ w1 ⟨rfl, rfl⟩
  go_wp2_with fail
  go_ret2
  exact ⟨rfl, rfl⟩

def allTo (C : List Chunk) (i : Nat) : Nat := ((C.take i).map fun e => e.2 * e.1.size).sum
def keptTo (C : List Chunk) (i : Nat) : Nat := ((C.take i).map fun e => e.1.size).sum
theorem allTo_step {C : List Chunk} {i : Nat} {e : Chunk} (h : C[i]? = some e) : allTo C (i + 1) = allTo C i + e.2 * e.1.size := by
  unfold allTo
  rw [List.take_add_one, h]
  simp
theorem keptTo_step {C : List Chunk} {i : Nat} {e : Chunk} (h : C[i]? = some e) : keptTo C (i + 1) = keptTo C i + e.1.size := by
  unfold keptTo
  rw [List.take_add_one, h]
  simp

structure SizesRel (w wr : World) (C : List Chunk) (i a k : Nat) : Prop where
  all : a = allTo C i
  kept : k = keptTo C i
  amax : a ≤ i * 64000000
  kmax : k ≤ i * 64
  below : Below w.heap.size w wr

set_option maxHeartbeats 2000000 in
theorem sizes_walk (w : World) (B base g : Nat) (s : St) (hs : StoreIs w B base g s) (htop : s.top < 1000000) :
    Calls Tryd.prog 11 #[.pointer (some ⟨g, 0, none⟩)] w fun e w' => e = .returned (.tuple #[.int .i64 (allTo s.C s.C.length : Nat), .int .i64 (keptTo s.C s.C.length : Nat)]) ∧ Below w.heap.size w w' := by
  have HS := Lib.hid hs
  obtain ⟨va, cap, h0⟩ := hs.len
  have hl := hs.ok.len
  obtain ⟨n, hn⟩ : ∃ n, n = s.C.length := ⟨_, rfl⟩
  rw [← hn] at h0 hl ⊢
  have HN := Lib.hid hn
  have H0 := Lib.hid h0
  clear hs hn
  go_enter Tryd.func11, Tryd.ntmps11
  go_wp2_with fail
  clear h0
  go_loopw [2, 3, 11] (fun al kp ix wr => ∃ i a k : Nat, i ≤ n ∧ ix = .int .i64 i ∧ al = .int .i64 a ∧ kp = .int .i64 k ∧ SizesRel w wr s.C i a k) (fun _ _ ix _ => n - (intOf ix).toNat)
  case atStart => exact ⟨0, 0, 0, by omega, rfl, rfl, rfl, rfl, rfl, by omega, by omega, Below.refl _ _⟩
  case round =>
    obtain ⟨i, a, k, hi, rfl, rfl, rfl, hr⟩ := hrel
    have hamax := hr.amax
    have hkmax := hr.kmax
    have HR := Lib.hid hr
    clear hr
    by_cases hlt : i < n
    · have q1 : decide (i < n) = true := decide_eq_true hlt
      obtain ⟨⟨t, c⟩, he⟩ : ∃ e, s.C[i]? = some e := ⟨_, List.getElem?_eq_getElem (by have := HN.out; omega)⟩
      obtain ⟨r, cap', hc0, hown⟩ := HS.out.row (by have := HN.out; omega)
      rw [H0.out, ← HN.out] at hc0
      simp only [Option.some.injEq, Value.slice.injEq, true_and] at hc0
      obtain ⟨rfl, rfl⟩ := hc0
      have hown1 := ownsRow_later hown HR.out.below
      have hc1 := hown1.cellAt (i * 2) (by have := HN.out; omega)
      have hc2 := hown1.cellAt (i * 2 + 1) (by have := HN.out; omega)
      rw [chunksV_text he] at hc1
      rw [chunksV_count he] at hc2
      simp only at hc1 hc2
      obtain ⟨ht64, hct⟩ := HS.out.ok.small _ (List.mem_of_getElem? he)
      simp only at ht64 hct
      have hm : c * t.size ≤ 1000000 * 64 := Nat.mul_le_mul (by omega) ht64
      have H1 := Lib.hid (allTo_step he)
      have H2 := Lib.hid (keptTo_step he)
      obtain ⟨m, hmm⟩ : ∃ m, m = c * t.size := ⟨_, rfl⟩
      rw [← hmm] at hm
      have q2 : IntKind.i64.wrap ((c : Int) * (t.size : Int)) = (m : Int) := by
        have e1 : (c : Int) * (t.size : Int) = (m : Int) := by rw [hmm]; exact (Int.natCast_mul _ _).symm
        rw [e1]
        exact IntWalk.i64_in _ (by omega)
      have HMM := Lib.hid hmm
      clear he hown hown1 hmm
      go_wp2_with fail
      go_roundw
      case rel =>
        refine ⟨i + 1, a + m, k + t.size, by omega, by go_num, by go_num, by go_num, by rw [H1.out, HR.out.all, HMM.out], by rw [H2.out, HR.out.kept], by omega, by omega, ?_⟩
        exact HR.out.below.alloc HR.out.below.size _
      case measure => simp [intOf]; omega
    · obtain rfl : i = n := by omega
      have q1 : decide (i < i) = false := decide_eq_false hlt
      have e1 := HR.out.all
      have e2 := HR.out.kept
      have HB := Lib.hid HR.out.below
      have E1 := Lib.hid e1
      have E2 := Lib.hid e2
      clear e1 e2
      go_wp2_with fail
      go_ret2
      exact ⟨by rw [← E1.out, ← E2.out]; rfl, HB.out⟩

end Go.Proofs.YtaoekllajnnbjaaDoor
