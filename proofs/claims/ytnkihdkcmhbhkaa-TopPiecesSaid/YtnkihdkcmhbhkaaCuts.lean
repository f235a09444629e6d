/- The walk of chunk.Cuts. -/
import Derived.Test.YtnkihdkcmhbhkaaProg
import Derived.Test.YtnkihdkcmhbhkaaBase
import Derived.Test.YtnkihdkcmhbhkaaChunkMath
namespace Go.Proofs.Ytnkihdkcmhbhkaa
open Go.RowKit Chunk

theorem infoInt : (Try.prog.info? 3).map (fun i => (i.zero, i.size, i.bytes)) = some (some (.int .i64 0), 1, 8) := by kernel_rfl

/-- the cuts as integers -/
def cutsI (t : List UInt8) : List Int := (cuts t).map Int.ofNat
def nums (l : List Nat) : List Value := ints (l.map Int.ofNat)

def CutsRel (w wr : World) (t : List UInt8) (k : Nat) (v f : Value) : Prop :=
  f = .int .i64 ((run t k).1 : Nat) ∧ wr.ownsRow w.heap.size 3 1 v (run t k).2.length (nums (run t k).2) ∧ Below w.heap.size w wr

theorem rel_yes {w w1 : World} {t : List UInt8} {k f : Nat} {v1 : Value} (hfr : f = (run t k).1) (h : cutAt t f k = true)
    (hown : w1.ownsRow w.heap.size 3 1 v1 ((run t k).2.length + 1) (nums (run t k).2 ++ [.int .i64 ((k : Int) + 1)])) (hb : Below w.heap.size w w1) : CutsRel w w1 t (k + 1) v1 (.int .i64 ((k : Int) + 1)) := by
  subst hfr
  unfold CutsRel
  rw [run_yes h]
  exact ⟨rfl, by simpa [nums, ints] using hown, hb⟩
theorem rel_no {w w1 : World} {t : List UInt8} {k f : Nat} {v1 : Value} (hfr : f = (run t k).1) (h : cutAt t f k = false)
    (hown : w1.ownsRow w.heap.size 3 1 v1 (run t k).2.length (nums (run t k).2)) (hb : Below w.heap.size w w1) : CutsRel w w1 t (k + 1) v1 (.int .i64 (f : Int)) := by
  subst hfr
  unfold CutsRel
  rw [run_no h]
  exact ⟨rfl, hown, hb⟩

theorem byte_at {s : ByteArray} {t : List UInt8} (ht : t = s.data.toList) {j : Nat} (hj : j < s.size) : t[j]? = some s[j] := by
  subst ht
  rw [List.getElem?_eq_getElem (by simpa using hj)]
  rfl
theorem sum_num (S c : Nat) : Value.int .i64 (((S : Int) * 3 + (c : Int)) % 251) = .int .i64 (((S * 3 + c) % 251 : Nat) : Int) := by
  congr 1

set_option maxHeartbeats 400000 in
theorem cuts_any (s : ByteArray) (w : World) (hs : s.size ≤ 2000) :
    Calls Try.prog 9 #[.string s] w fun e w' => ∃ v, e = .returned (.tuple #[v, .nilIface]) ∧
      w'.ownsRow w.heap.size 3 1 v (cutsI s.data.toList).length (ints (cutsI s.data.toList)) ∧ Below w.heap.size w w' := by
  obtain ⟨t, ht⟩ : ∃ t, t = s.data.toList := ⟨_, rfl⟩
  have hsz : t.length = s.size := by rw [ht]; simp
  rw [← ht]
  go_enter Try.func9, Try.ntmps9
  go_wp2
  go_loopw [4, 5, 16] (fun v f i wr => ∃ k : Nat, k ≤ s.size ∧ i = .int .i64 k ∧ CutsRel w wr t k v f) (fun _ _ i _ => s.size - (intOf i).toNat)
  case atStart => exact ⟨0, Nat.zero_le _, rfl, rfl, World.ownsRow_nil .., Below.refl ..⟩
  case round =>
    obtain ⟨k, hk, rfl, hrel⟩ := hrel
    obtain ⟨hf, hown, hb⟩ := hrel
    obtain ⟨f, hfr⟩ : ∃ f, f = (run t k).1 := ⟨_, rfl⟩
    have hfk : f ≤ k := by rw [hfr]; exact run_le t k
    rw [← hfr] at hf
    subst hf
    have HFR := Lib.hid hfr
    have HOWN := Lib.hid hown
    have HB := Lib.hid hb
    have HT := Lib.hid ht
    have HSZ := Lib.hid hsz
    have HN1 := Lib.hid (show (run t k).2.length + 1 ≤ maxLen from by have := run_length t k; unfold maxLen; omega)
    have HN2 := Lib.hid (show ((run t k).2.length + 1) * 8 ≤ 140737488355328 from by have := run_length t k; omega)
    clear hfr hown hb ht hsz
    by_cases hlt : k < s.size
    · obtain ⟨lo, hlo, hlo1, hlo2⟩ : ∃ lo : Nat, lo = max f (k - 3) ∧ f ≤ lo ∧ lo ≤ k := ⟨_, rfl, by omega, by omega⟩
      have HLO := Lib.hid hlo
      clear hlo
      by_cases hm : f + 3 < k
      all_goals
        go_wp2
        go_loop [7, 8] (fun u j => ∃ i : Nat, lo ≤ i ∧ i ≤ k + 1 ∧ j = .int .i64 i ∧ u = .int .i64 (sumB t lo i : Nat)) (fun _ j => k + 1 - (intOf j).toNat)
        case atStart =>
          refine ⟨lo, by omega, by omega, ?_, by rw [sumB_start]; rfl⟩
          have := HLO.out
          congr 1; omega
        case round =>
          obtain ⟨j, hj1, hj2, rfl, rfl⟩ := hrel
          obtain ⟨S, hS⟩ : ∃ S, S = sumB t lo j := ⟨_, rfl⟩
          have hS1 : S < 251 := by rw [hS]; exact sumB_lt ..
          rw [← hS]
          have HS := Lib.hid hS
          clear hS
          by_cases hjk : j ≤ k
          · have hjs : j < s.size := by omega
            have hc : s[j].toNat < 256 := s[j].toNat_lt
            go_wp2
            go_round
            case rel =>
              refine ⟨j + 1, by omega, by omega, by go_num, ?_⟩
              rw [sumB_step t lo j s[j] hj1 (byte_at HT.out hjs), ← HS.out]
              exact sum_num _ _
            case measure => simp [intOf]; omega
          · obtain rfl : j = k + 1 := by omega
            have hcase : s.size ≤ k + 1 ∨ (k + 1 < s.size ∧ k + 1 ≤ f + 16 ∧ f + 16 ≤ k + 1) ∨ (k + 1 < s.size ∧ ¬ (k + 1 = f + 16) ∧ f + 2 ≤ k + 1 ∧ S % 8 = 0) ∨
              (k + 1 < s.size ∧ ¬ (k + 1 = f + 16) ∧ f + 2 ≤ k + 1 ∧ 0 < S % 8) ∨ (k + 1 < s.size ∧ ¬ (k + 1 = f + 16) ∧ k + 1 < f + 2) := by omega
            have hcut : (cutAt t f k = true ∧ (s.size ≤ k + 1 ∨ (k + 1 < s.size ∧ k + 1 ≤ f + 16 ∧ f + 16 ≤ k + 1) ∨ (k + 1 < s.size ∧ ¬ (k + 1 = f + 16) ∧ f + 2 ≤ k + 1 ∧ S % 8 = 0))) ∨
              (cutAt t f k = false ∧ ((k + 1 < s.size ∧ ¬ (k + 1 = f + 16) ∧ f + 2 ≤ k + 1 ∧ 0 < S % 8) ∨ (k + 1 < s.size ∧ ¬ (k + 1 = f + 16) ∧ k + 1 < f + 2))) := by
              have e1 := HS.out
              have e2 := HLO.out
              have e3 := HSZ.out
              rcases hcase with h1 | ⟨h1, h2, h3⟩ | ⟨h1, h2, h3, h4⟩ | ⟨h1, h2, h3, h4⟩ | ⟨h1, h2, h3⟩
              · exact .inl ⟨cutAt_last e3 h1 hlt, .inl h1⟩
              · exact .inl ⟨cutAt_most h2 h3, .inr (.inl ⟨h1, h2, h3⟩)⟩
              · exact .inl ⟨cutAt_sum e2 e1 h3 h4, .inr (.inr ⟨h1, h2, h3, h4⟩)⟩
              · exact .inr ⟨cutAt_not e3 h1 h2 hfk (.inr (by rw [← e2, ← e1]; exact h4)), .inl ⟨h1, h2, h3, h4⟩⟩
              · exact .inr ⟨cutAt_not e3 h1 h2 hfk (.inl h3), .inr ⟨h1, h2, h3⟩⟩
            clear hcase
            rcases hcut with ⟨hc, hw⟩ | ⟨hc, hw⟩
            · have HC := Lib.hid hc
              clear hc
              have hw : ((k : Int) == (s.size : Int) - 1) = true ∨ (((k : Int) == (s.size : Int) - 1) = false ∧ ((k : Int) + 1 - f == 16) = true) ∨
                  (((k : Int) == (s.size : Int) - 1) = false ∧ ((k : Int) + 1 - f == 16) = false ∧ f + 2 ≤ k + 1 ∧ ((S : Int) % 8 == 0) = true) := by
                simp only [beq_iff_eq, beq_eq_false_iff_ne]; omega
              rcases hw with h1 | ⟨h1, h2⟩ | ⟨h1, h2, h3, h4⟩
              all_goals
                go_wp2_with (at_builtin; go_must (refine wpList_push (.int .i64 0) 8 HOWN.out Try.underlying23 infoInt rfl rfl rfl rfl HN1.out HN2.out HB.out.size ?_; intro v' w1 hown1 hbel1 _; have HO1 := Lib.hid hown1; have HB1 := Lib.hid (HB.out.trans hbel1); clear hown1 hbel1))
                go_roundw
                case rel => exact ⟨k + 1, by omega, by go_num, rel_yes HFR.out HC.out HO1.out HB1.out⟩
                case measure => simp [intOf]; omega
            · have HC := Lib.hid hc
              clear hc
              have hw : (((k : Int) == (s.size : Int) - 1) = false ∧ ((k : Int) + 1 - f == 16) = false ∧ k + 1 < f + 2) ∨
                  (((k : Int) == (s.size : Int) - 1) = false ∧ ((k : Int) + 1 - f == 16) = false ∧ f + 2 ≤ k + 1 ∧ ((S : Int) % 8 == 0) = false) := by
                simp only [beq_eq_false_iff_ne]; omega
              rcases hw with ⟨h1, h2, h3⟩ | ⟨h1, h2, h3, h4⟩
              all_goals try (exfalso; omega)
              all_goals
                go_wp2
                go_roundw
                case rel => exact ⟨k + 1, by omega, by go_num, rel_no HFR.out HC.out HOWN.out HB.out⟩
                case measure => simp [intOf]; omega
    · obtain rfl : k = s.size := by omega
      go_wp2
      go_ret2
      refine ⟨_, rfl, ?_, HB.out⟩
      unfold cutsI cuts
      rw [HSZ.out, List.length_map]
      exact HOWN.out

set_option maxHeartbeats 400000 in
theorem cuts_long (s : ByteArray) (w : World) (hs : 2000 < s.size) :
    Calls Try.prog 9 #[.string s] w fun e w' => e = .returned (.tuple #[.slice none 0 0, .iface 46 (.int .i64 4)]) ∧ w = w' := by
  go_enter Try.func9, Try.ntmps9
  go_wp2
  go_ret2
  exact ⟨rfl, rfl⟩

end Go.Proofs.Ytnkihdkcmhbhkaa
