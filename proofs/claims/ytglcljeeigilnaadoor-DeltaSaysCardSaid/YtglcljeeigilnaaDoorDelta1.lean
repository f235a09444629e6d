/- Pieces in memory; the walks of Check and Own. -/
import Derived.Test.YtglcljeeigilnaaDoorProg
import Derived.Test.YtglcljeeigilnaaDoorPush
import Derived.Test.YtglcljeeigilnaaDoorDeltaMath
import Derived.ProofKit
namespace Go.Proofs.YtglcljeeigilnaaDoor
open Go.RowKit Delta

def piecesV (l : List Pc) : List Value := l.flatMap fun p => [.int .i64 p.pos, .int .i64 p.size, .string p.own]
theorem piecesV_length (l : List Pc) : (piecesV l).length = l.length * 3 := by
  induction l with
  | nil => rfl
  | cons e l ih => simp [piecesV] at *; omega
theorem piecesV_at {l : List Pc} {i : Nat} {p : Pc} (h : l[i]? = some p) : (piecesV l)[i * 3]? = some (.int .i64 p.pos) ∧ (piecesV l)[i * 3 + 1]? = some (.int .i64 p.size) ∧ (piecesV l)[i * 3 + 2]? = some (.string p.own) := by
  induction l generalizing i with
  | nil => simp at h
  | cons x l ih =>
    rcases i with _ | i
    · simp at h; subst h; simp [piecesV]
    · simp at h
      have := ih h
      simp only [piecesV, List.flatMap_cons] at this ⊢
      rw [show (i + 1) * 3 = i * 3 + 3 by omega, show i * 3 + 3 + 1 = (i * 3 + 1) + 3 by omega, show i * 3 + 3 + 2 = (i * 3 + 2) + 3 by omega]
      simpa using this
theorem piecesV_append (l : List Pc) (p : Pc) : piecesV l ++ [.int .i64 p.pos, .int .i64 p.size, .string p.own] = piecesV (l ++ [p]) := by
  simp [piecesV]
theorem piecesV_setOwn (l : List Pc) (p : Pc) (s : ByteArray) : (piecesV (l ++ [p])).set (l.length * 3 + 2) (.string s) = piecesV (l ++ [⟨p.pos, p.size, s⟩]) := by
  rw [← piecesV_append, ← piecesV_append, List.set_append_right _ _ (by rw [piecesV_length]; omega), piecesV_length]
  congr 1
  rw [show l.length * 3 + 2 - l.length * 3 = 2 by omega]
  rfl

/-- v reads, in w, as the pieces l -/
def HasPieces (w : World) (v : Value) (l : List Pc) : Prop :=
  ∃ a cap, v = .slice a l.length cap ∧ l.length ≤ cap ∧ cap ≤ maxLen ∧ (0 < l.length → ∃ b off, a = some ⟨b, off, none⟩ ∧ b < w.heap.size ∧
    ∀ j p, l[j]? = some p → w.cell? ⟨b, off + j * 3, none⟩ = some (.int .i64 p.pos) ∧ w.cell? ⟨b, off + j * 3 + 1, none⟩ = some (.int .i64 p.size) ∧ w.cell? ⟨b, off + j * 3 + 2, none⟩ = some (.string p.own))

theorem HasPieces.below {w w' : World} {v : Value} {l : List Pc} (h : HasPieces w v l) (hb : Below w.heap.size w w') : HasPieces w' v l := by
  obtain ⟨a, cap, h2, hc1, hc2, h3⟩ := h
  refine ⟨a, cap, h2, hc1, hc2, fun h0 => ?_⟩
  obtain ⟨b, off, ha, hlt, hc⟩ := h3 h0
  refine ⟨b, off, ha, Nat.lt_of_lt_of_le hlt hb.size, fun j x hx => ?_⟩
  rw [hb.cell (p := ⟨b, off + j * 3, none⟩) hlt, hb.cell (p := ⟨b, off + j * 3 + 1, none⟩) hlt, hb.cell (p := ⟨b, off + j * 3 + 2, none⟩) hlt]
  exact hc j x hx
theorem HasPieces.drewN {w : World} {v : Value} {l : List Pc} (h : HasPieces w v l) (n : Nat) : HasPieces (w.drewN n) v l := h.below (below_drewN' w n)
theorem HasPieces.nil (w : World) : HasPieces w (.slice none 0 0) [] := ⟨none, 0, rfl, Nat.le_refl _, Nat.zero_le _, fun h => absurd h (by simp)⟩

theorem HasPieces.of_own {w : World} {base : Nat} {e : TypeId} {v : Value} {n : Nat} {l : List Pc} (h : w.ownsRow base e 3 v n (piecesV l)) : n = l.length ∧ HasPieces w v l := by
  have hn : n = l.length := by have := h.1; rw [piecesV_length] at this; omega
  subst hn
  refine ⟨rfl, ?_⟩
  rcases Nat.eq_zero_or_pos l.length with h0 | h0
  · have h2 := h.2
    rcases h2 with ⟨rfl, h0⟩ | ⟨g, cap, cur, rfl, hg, hh, hc, hm, hs, ht⟩
    · exact ⟨none, 0, by rw [h0], by omega, by omega, fun h => by omega⟩
    · exact ⟨_, _, rfl, hc, hm, fun h => by omega⟩
  · obtain ⟨r, cap, rfl, hbr, hrw⟩ := h.form h0
    have hcc : l.length ≤ cap ∧ cap ≤ maxLen := by
      rcases h.2 with ⟨h1, -⟩ | ⟨g, cap', cur, h1, -, -, hc, hm, -⟩
      · simp at h1
      · simp at h1
        omega
    refine ⟨_, _, rfl, hcc.1, hcc.2, fun _ => ⟨r, 0, rfl, hrw, fun j p hp => ?_⟩⟩
    have hj := (List.getElem?_eq_some_iff.1 hp).1
    obtain ⟨p1, p2, p3⟩ := piecesV_at hp
    refine ⟨?_, ?_, ?_⟩
    · rw [Nat.zero_add, h.cellAt (j * 3) (by omega), p1]
    · rw [Nat.zero_add, h.cellAt (j * 3 + 1) (by omega), p2]
    · rw [Nat.zero_add, h.cellAt (j * 3 + 2) (by omega), p3]

/-- the sum that Own tells, as an int -/
def ownW (l : List Pc) : Int := l.foldl (fun n p => wrap64 (n + (p.own.size : Int))) 0
theorem ownW_step {l : List Pc} {k : Nat} {p : Pc} (h : l[k]? = some p) : ownW (l.take (k + 1)) = wrap64 (ownW (l.take k) + (p.own.size : Int)) := by
  unfold ownW
  rw [List.take_add_one, h]
  simp
theorem ownW_small (l : List Pc) (h : ownsum l ≤ 100000) : ownW l = ownsum l := by
  have key : ∀ (l : List Pc) (n : Nat), n + ownsum l ≤ 100000 → l.foldl (fun n p => wrap64 (n + (p.own.size : Int))) (n : Int) = ((n + ownsum l : Nat) : Int) := by
    intro l
    induction l with
    | nil => intro n _; simp [ownsum]
    | cons p l ih =>
      intro n hn
      have e : ownsum (p :: l) = p.own.size + ownsum l := by simp [ownsum]
      rw [e] at hn ⊢
      rw [List.foldl_cons, IntWalk.wrap64_in _ (by omega)]
      have := ih (n + p.own.size) (by omega)
      rw [show ((n : Int) + (p.own.size : Int)) = ((n + p.own.size : Nat) : Int) by omega, this]
      omega
  have := key l 0 (by omega)
  unfold ownW
  simpa using this

theorem within_anyC (a b c : Int) (w : World) :
    Calls Tryd.prog 31 #[.int .i64 a, .int .i64 b, .int .i64 c] w fun e w' => e = .returned (.bool (decide (b ≤ a ∧ a ≤ c))) ∧ w = w' := by
  by_cases h1 : b ≤ a
  · have q1 : decide (b ≤ a) = true := decide_eq_true h1
    by_cases h2 : a ≤ c
    · have q2 : decide (a ≤ c) = true := decide_eq_true h2
      go_enter Tryd.func31, Tryd.ntmps31
      go_wp2
      go_ret
      exact ⟨by simp [h1, h2], rfl⟩
    · have q2 : decide (a ≤ c) = false := decide_eq_false h2
      go_enter Tryd.func31, Tryd.ntmps31
      go_wp2
      go_ret
      exact ⟨by simp, rfl⟩
  · have q1 : decide (b ≤ a) = false := decide_eq_false h1
    go_enter Tryd.func31, Tryd.ntmps31
    go_wp2
    go_ret
    exact ⟨by simp, rfl⟩

theorem law_inC (a b c : Int) (w : World) :
    Calls Tryd.prog 8 #[.int .i64 a, .int .i64 b, .int .i64 c] w fun e w' => e = .returned (.bool (decide (b ≤ a ∧ a ≤ c))) ∧ w = w' := by
  by_cases h1 : b ≤ a
  · have q1 : decide (b ≤ a) = true := decide_eq_true h1
    by_cases h2 : a ≤ c
    · have q2 : decide (a ≤ c) = true := decide_eq_true h2
      go_enter Tryd.func8, Tryd.ntmps8
      go_wp2
      go_ret
      exact ⟨by simp [h1, h2], rfl⟩
    · have q2 : decide (a ≤ c) = false := decide_eq_false h2
      go_enter Tryd.func8, Tryd.ntmps8
      go_wp2
      go_ret
      exact ⟨by simp, rfl⟩
  · have q1 : decide (b ≤ a) = false := decide_eq_false h1
    go_enter Tryd.func8, Tryd.ntmps8
    go_wp2
    go_ret
    exact ⟨by simp, rfl⟩

/-- what is wrong with texts and a size -/
def delE (o t : ByteArray) (z : Int) : Int := if 2000 < o.size ∨ 2000 < t.size then 4 else if 1 ≤ z ∧ z ≤ 64 then 0 else 1
def errC (k : Int) : Value := if k = 0 then .nilIface else .iface 68 (.int .i64 k)

theorem check_any (o t : ByteArray) (z : Int) (w : World) (ho : o.size ≤ 140737488351232) (ht : t.size ≤ 140737488351232) :
    Calls Tryd.prog 17 #[.string o, .string t, .int .i64 z] w fun e w' => e = .returned (errC (delE o t z)) ∧ w = w' := by
  by_cases h1 : 2000 < o.size
  · have q1 : decide ((2000 : Int) < (o.size : Int)) = true := decide_eq_true (by omega)
    have D : delE o t z = 4 := by unfold delE; rw [if_pos (.inl h1)]
    rw [D]
    go_enter Tryd.func17, Tryd.ntmps17
    go_wp2_with fail
    go_ret
    exact ⟨rfl, rfl⟩
  · have q1 : decide ((2000 : Int) < (o.size : Int)) = false := decide_eq_false (by omega)
    by_cases h2 : 2000 < t.size
    · have q2 : decide ((2000 : Int) < (t.size : Int)) = true := decide_eq_true (by omega)
      have D : delE o t z = 4 := by unfold delE; rw [if_pos (.inr h2)]
      rw [D]
      go_enter Tryd.func17, Tryd.ntmps17
      go_wp2_with fail
      go_ret
      exact ⟨rfl, rfl⟩
    · have q2 : decide ((2000 : Int) < (t.size : Int)) = false := decide_eq_false (by omega)
      by_cases h3 : 1 ≤ z ∧ z ≤ 64
      · have D : delE o t z = 0 := by unfold delE; rw [if_neg (by omega), if_pos h3]
        rw [D]
        have H3 := Lib.hid h3
        clear h3 h1 h2
        go_enter Tryd.func17, Tryd.ntmps17
        go_wp2_with fail
        refine (within_anyC _ _ _ _).mono ?_
        rw [decide_eq_true H3.out]
        rintro _ w1 ⟨rfl, rfl⟩
        go_wp2_with fail
        go_ret
        exact ⟨rfl, rfl⟩
      · have D : delE o t z = 1 := by unfold delE; rw [if_neg (by omega), if_neg h3]
        rw [D]
        have H3 := Lib.hid h3
        clear h3 h1 h2
        go_enter Tryd.func17, Tryd.ntmps17
        go_wp2_with fail
        refine (within_anyC _ _ _ _).mono ?_
        rw [decide_eq_false H3.out]
        rintro _ w1 ⟨rfl, rfl⟩
        go_wp2_with fail
        go_ret
        exact ⟨rfl, rfl⟩

set_option maxHeartbeats 1000000 in
theorem own_any (v : Value) (l : List Pc) (w : World) (hv : HasPieces w v l) (hsz : ∀ p ∈ l, p.own.size ≤ maxLen) :
    Calls Tryd.prog 23 #[v] w fun e w' => e = .returned (.int .i64 (ownW l)) ∧ Below w.heap.size w w' := by
  obtain ⟨a, cap, rfl, hc1, hc2, hcell⟩ := hv
  have hcm : l.length ≤ 9223372036854775807 := by unfold maxLen at hc2; omega
  obtain ⟨n, hn⟩ : ∃ n, n = l.length := ⟨_, rfl⟩
  rw [← hn] at hcm hcell ⊢
  have HN := Lib.hid hn
  have HC := Lib.hid hcell
  have HSZ := Lib.hid hsz
  clear hn hcell hc1 hc2 hsz
  go_enter Tryd.func23, Tryd.ntmps23
  go_wp2_with fail
  go_loopw [3, 8] (fun m ix wr => ∃ k : Nat, k ≤ n ∧ ix = .int .i64 k ∧ m = .int .i64 (ownW (l.take k)) ∧ Below w.heap.size w wr) (fun _ ix _ => n - (intOf ix).toNat)
  case atStart => exact ⟨0, by omega, rfl, by simp [ownW], Below.refl _ _⟩
  case round =>
    obtain ⟨k, hk, rfl, rfl, hb⟩ := hrel
    have HB := Lib.hid hb
    clear hb
    by_cases hlt : k < n
    · have q1 : decide (k < n) = true := decide_eq_true hlt
      obtain ⟨p, hp⟩ : ∃ p, l[k]? = some p := ⟨_, List.getElem?_eq_getElem (by have := HN.out; omega)⟩
      obtain ⟨b, off, rfl, hbw, hcs⟩ := HC.out (by omega)
      obtain ⟨c1, c2, c3⟩ := hcs k p hp
      rw [← HB.out.cell (p := ⟨b, off + k * 3, none⟩) hbw] at c1
      rw [← HB.out.cell (p := ⟨b, off + k * 3 + 1, none⟩) hbw] at c2
      rw [← HB.out.cell (p := ⟨b, off + k * 3 + 2, none⟩) hbw] at c3
      have hs := HSZ.out p (List.mem_of_getElem? hp)
      unfold maxLen at hs
      have HST := Lib.hid (ownW_step hp)
      obtain ⟨m, hm⟩ : ∃ m, m = ownW (l.take k) := ⟨_, rfl⟩
      rw [← hm] at HST ⊢
      clear hcs hp hm
      go_wp2_with fail
      go_roundw
      case rel => exact ⟨k + 1, by omega, by go_num, by rw [HST.out], HB.out.alloc HB.out.size _⟩
      case measure => simp [intOf]; omega
    · obtain rfl : k = n := by omega
      have q1 : decide (k < k) = false := decide_eq_false hlt
      have e1 : l.take k = l := List.take_of_length_le (by have := HN.out; omega)
      rw [e1]
      clear e1
      go_wp2_with fail
      go_ret
      exact ⟨rfl, HB.out⟩

end Go.Proofs.YtglcljeeigilnaaDoor
