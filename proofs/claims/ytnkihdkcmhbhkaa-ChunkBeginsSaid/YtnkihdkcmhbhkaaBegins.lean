/- The walk of ChunkBegins. -/
import Derived.Test.YtnkihdkcmhbhkaaChunkFact
import Derived.Test.YtnkihdkcmhbhkaaInts
import Derived.Test.YtnkihdkcmhbhkaaChunkBeg
namespace Go.Proofs.Ytnkihdkcmhbhkaa
open Go.RowKit Chunk

theorem HasInts.take {w : World} {a : Option Addr} {n cap : Nat} {xs : List Int} (h : HasInts w (.slice a n cap) xs) (k : Nat) (hk : k ≤ xs.length) : HasInts w (.slice a k cap) (xs.take k) := by
  obtain ⟨a', cap', h2, hc1, hc2, h3⟩ := h
  cases h2
  refine ⟨a, cap, by simp; omega, by simp; omega, hc2, fun h0 => ?_⟩
  obtain ⟨b, off, ha, hlt, hc⟩ := h3 (by simp at h0; omega)
  refine ⟨b, off, ha, hlt, fun j x hx => hc j x ?_⟩
  rw [List.getElem?_take] at hx
  split at hx
  · exact hx
  · cases hx

theorem cutsI_begins {t m : List UInt8} (h : t ≠ []) : (cutsI t).length - 1 ≤ (cutsI (t ++ m)).length ∧ (cutsI (t ++ m)).take ((cutsI t).length - 1) = (cutsI t).take ((cutsI t).length - 1) := by
  obtain ⟨h1, h2⟩ := begins (m := m) h
  unfold cutsI
  refine ⟨by simpa using h1, ?_⟩
  rw [← List.map_take, ← List.map_take, List.length_map, h2]

set_option maxHeartbeats 400000 in
theorem begins_walk (s m : ByteArray) (w : World) (hs : s.size ≤ 140737488351232) (hm : m.size ≤ 140737488351232) :
    Calls Try.prog 4 #[.string s, .string m] w fun e w' => e = .returned (.bool true) ∧ Below w.heap.size w w' := by
  go_enter Try.func4, Try.ntmps4
  go_wp2_with fail
  refine (chunkFact_any _).mono ?_
  rintro e w1 ⟨rfl, hb1⟩
  have HB1 := Lib.hid hb1
  clear hb1
  go_wp2_with fail
  by_cases h1 : s.size ≤ 2000
  · refine (cuts_any s _ h1).mono ?_
    rintro e w2 ⟨v, rfl, hown, hb2⟩
    have HB2 := Lib.hid (HB1.out.trans (hb2.mono HB1.out.size))
    have hi := (HasInts.of_own hown).2
    clear hb2 hown
    go_wp2_with fail
    by_cases h2 : (s ++ m).size ≤ 2000
    · refine (cuts_any _ _ h2).mono ?_
      rintro e w3 ⟨v3, rfl, hown3, hb3⟩
      have HB3 := Lib.hid (HB2.out.trans (hb3.mono HB2.out.size))
      have hi3 := (HasInts.of_own hown3).2
      have hi2 := hi.below hb3
      clear hb3 hi hown3
      obtain ⟨X, hX⟩ : ∃ X, X = cutsI s.data.toList := ⟨_, rfl⟩
      obtain ⟨Y, hY⟩ : ∃ Y, Y = cutsI (s ++ m).data.toList := ⟨_, rfl⟩
      rw [← hX] at hi2
      rw [← hY] at hi3
      have HX := Lib.hid hX
      have HY := Lib.hid hY
      have HI2 := Lib.hid hi2
      have HI3 := Lib.hid hi3
      obtain ⟨a2, c2, rfl, l2, l2m, -⟩ := hi2
      obtain ⟨a3, c3, rfl, l3, l3m, -⟩ := hi3
      clear hX hY
      unfold maxLen at l2m l3m
      by_cases h0 : X.length = 0
      · go_wp2_with fail
        go_ret
        exact ⟨rfl, HB3.out⟩
      · have ht : s.data.toList ≠ [] := by
          intro h
          have := HX.out
          rw [h] at this
          exact h0 (by rw [this]; rfl)
        have hbeg := cutsI_begins (m := m.data.toList) ht
        rw [← HX.out, show s.data.toList ++ m.data.toList = (s ++ m).data.toList from by simp, ← HY.out] at hbeg
        have hle := hbeg.1
        have HE := Lib.hid hbeg.2
        clear hbeg
        obtain ⟨n, hn⟩ : ∃ n, X.length = n + 1 := ⟨X.length - 1, by omega⟩
        have HI4 := Lib.hid (HI2.out.take n (by omega))
        have HI5 := Lib.hid (HI3.out.take n (by omega))
        have HN := Lib.hid hn
        clear h0 ht
        rw [hn]
        rw [hn] at hle l2
        clear hn
        go_wp2_with fail
        have q1 : IntKind.i64.wrap (n : Int) = n := IntWalk.i64_in _ (by omega)
        have q2 : (n : Int).toNat = n := Int.toNat_natCast n
        have q3 : decide (n ≤ Y.length) = true := by simp; omega
        go_quiet ((go_at_call 11; refine Calls.quiet_of (ints_any _ _ _ _ _ HI5.out HI4.out)))
        clear q1 q2 q3
        go_wp2_with fail
        go_ret
        exact ⟨ret_bool (by have h := HE.out; rw [HN.out] at h; simpa using h), below_drewN HB3.out _⟩
    · refine (cuts_long _ _ (by omega)).mono ?_
      rintro e w3 ⟨rfl, rfl⟩
      obtain ⟨a, c, rfl, -, -, -⟩ := hi
      go_wp2_with fail
      go_ret
      exact ⟨rfl, HB2.out⟩
  · refine (cuts_long _ _ (by omega)).mono ?_
    rintro e w2 ⟨rfl, rfl⟩
    go_wp2_with fail
    refine (cuts_long _ _ (by simp; omega)).mono ?_
    rintro e w3 ⟨rfl, rfl⟩
    go_wp2_with fail
    go_ret
    exact ⟨rfl, HB1.out⟩

end Go.Proofs.Ytnkihdkcmhbhkaa
