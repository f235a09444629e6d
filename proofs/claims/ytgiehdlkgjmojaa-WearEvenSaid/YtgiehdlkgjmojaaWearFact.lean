/- The walk of wearFact. -/
import Derived.Test.YtgiehdlkgjmojaaWear2
import Derived.Test.YtgiehdlkgjmojaaInts
namespace Go.Proofs.Ytgiehdlkgjmojaa
open Go.RowKit Wear

theorem fact_least : IsLeast [3, 1, 1] 1 := ⟨1, rfl, ⟨by decide, by decide⟩, fun j x hj hx => by
  have : j = 0 := by omega
  subst this
  simp at hx; omega⟩
theorem fact_uses : UsesN 3 [3, 1, 1] [3, 3, 2] := by
  refine ⟨[3, 2, 2], ⟨[3, 2, 1], ⟨[3, 1, 1], rfl, 1, 1, fact_least, rfl, rfl⟩, 2, 1, ⟨1, rfl, ⟨by decide, by decide⟩, ?_⟩, rfl, rfl⟩, 1, 2, ⟨2, rfl, ⟨by decide, by decide⟩, ?_⟩, rfl, rfl⟩
  · intro j x hj hx
    rcases j with _ | _ | j
    · simp at hx; omega
    · simp at hx; omega
    · omega
  · intro j x hj hx
    rcases j with _ | j
    · simp at hx; omega
    · omega
theorem fact_code : codeOf [3, 1, 1] = 0 := by decide

theorem lit311 (w : World) : HasInts (w.alloc (.cells #[.int .i64 3, .int .i64 1, .int .i64 1] 3)) (.slice (some ⟨w.heap.size, 0, none⟩) 3 3) [3, 1, 1] := HasInts.lit w [3, 1, 1] 3 (by decide)
theorem lit332 (w : World) : HasInts (w.alloc (.cells #[.int .i64 3, .int .i64 3, .int .i64 2] 3)) (.slice (some ⟨w.heap.size, 0, none⟩) 3 3) [3, 3, 2] := HasInts.lit w [3, 3, 2] 3 (by decide)

set_option maxHeartbeats 400000 in
theorem wearFact_any (w : World) : Calls Try.prog 5 #[] w fun e w' => e = .returned (.bool true) ∧ Below w.heap.size w w' := by
  go_enter Try.func5, Try.ntmps5
  go_wp2_with fail
  refine (after_any _ [3, 1, 1] 3 _ (lit311 w) (by decide) fact_code).mono ?_
  rintro _ w2 ⟨⟨v, ys, rfl, hu, hown⟩, hb⟩
  obtain rfl := hu.unique fact_uses
  have hb0 : Below w.heap.size w (w.alloc (.cells #[.int .i64 3, .int .i64 1, .int .i64 1] 3)) := (Below.refl _ w).alloc (Nat.le_refl _) _
  have hb2 := hb0.trans (hb.mono hb0.size)
  have HB2 := Lib.hid hb2
  have hi := (HasInts.of_own (l := [3, 3, 2]) hown).2
  have HI := Lib.hid hi
  have HX := Lib.hid (hi.below ((Below.refl _ w2).alloc (Nat.le_refl _) (.cells #[.int .i64 3, .int .i64 1, .int .i64 1] 3)))
  obtain ⟨a, cap, rfl, -, -, -⟩ := hi
  clear hu hown hb hb0 hb2
  go_wp2_with fail
  refine (next_any _ [3, 1, 1] _ (lit311 w2)).mono ?_
  rintro _ w3 ⟨⟨hc, -⟩ | ⟨-, i, rfl, hi⟩, rfl⟩
  · exact absurd fact_code hc
  obtain rfl := hi.unique fact_least
  clear hi
  go_wp2_with fail
  have hx := HX.out.below ((Below.refl _ (w2.alloc (.cells #[.int .i64 3, .int .i64 1, .int .i64 1] 3))).alloc (Nat.le_refl _) (.cells #[.int .i64 3, .int .i64 3, .int .i64 2] 3))
  have hl := lit332 (w2.alloc (.cells #[.int .i64 3, .int .i64 1, .int .i64 1] 3))
  rw [show (w2.alloc (.cells #[.int .i64 3, .int .i64 1, .int .i64 1] 3)).heap.size = w2.heap.size + 1 from by simp] at hl
  have HX2 := Lib.hid hx
  have HL2 := Lib.hid hl
  clear hx hl
  refine (ints_any _ _ [3, 3, 2] [3, 3, 2] _ HX2.out HL2.out).mono ?_
  rintro _ w4 ⟨rfl, d, rfl⟩
  go_wp2_with fail
  go_ret
  have hb3 := HB2.out.alloc HB2.out.size (.cells #[.int .i64 3, .int .i64 1, .int .i64 1] 3)
  exact ⟨rfl, below_drewN (hb3.alloc hb3.size _) _⟩

end Go.Proofs.Ytgiehdlkgjmojaa
