/- The walk of ChunkLocal. -/
import Derived.Test.YtnkihdkcmhbhkaaChunkFact
import Derived.Test.YtnkihdkcmhbhkaaInts
import Derived.Test.YtnkihdkcmhbhkaaChunkLoc
import Derived.Deep.Cut
import Derived.Deep.DeepCutAuto
namespace Go.Proofs.Ytnkihdkcmhbhkaa
open Go.RowKit Chunk

def Bad (a b : ByteArray) (X Y : List Int) : Prop := (0 < a.size ∧ (a.size : Int) ∉ X) ∨ (0 < b.size ∧ (b.size : Int) ∉ Y)

def LocRel (w wr : World) (m : Nat) (X : List Int) (k : Nat) (u : Value) : Prop :=
  wr.ownsRow w.heap.size 3 1 u (loc m (X.take k)).length (ints (loc m (X.take k))) ∧ Below w.heap.size w wr

theorem locRel_yes {w wr : World} {m : Nat} {X : List Int} {k : Nat} {u : Value} {x : Int} (hx : X[k]? = some x) (h : (m : Int) < x)
    (hown : wr.ownsRow w.heap.size 3 1 u ((loc m (X.take k)).length + 1) (ints (loc m (X.take k)) ++ [.int .i64 (x - m)])) (hb : Below w.heap.size w wr) : LocRel w wr m X (k + 1) u := by
  unfold LocRel
  rw [loc_yes hx h]
  exact ⟨by simpa [ints] using hown, hb⟩
theorem locRel_no {w wr : World} {m : Nat} {X : List Int} {k : Nat} {u : Value} {x : Int} (hx : X[k]? = some x) (h : ¬ (m : Int) < x)
    (hown : wr.ownsRow w.heap.size 3 1 u (loc m (X.take k)).length (ints (loc m (X.take k)))) (hb : Below w.heap.size w wr) : LocRel w wr m X (k + 1) u := by
  unfold LocRel
  rw [loc_no hx h]
  exact ⟨hown, hb⟩
theorem cutsI_bound {t : List UInt8} {x : Int} (h : x ∈ cutsI t) : 1 ≤ x ∧ x ≤ t.length := by
  unfold cutsI at h
  obtain ⟨y, hy, rfl⟩ := List.mem_map.1 h
  have := cuts_bound t y hy
  constructor
  · show (1 : Int) ≤ (y : Int); omega
  · show (y : Int) ≤ _; omega

set_option maxHeartbeats 1000000 in
set_option maxRecDepth 100000 in
theorem local_walk (a b e : ByteArray) (w : World) (ha : a.size ≤ 140737488351232) (hb : b.size ≤ 140737488351232) (he : e.size ≤ 140737488351232) :
    Calls Try.prog 3 #[.string a, .string b, .string e] w fun e w' => e = .returned (.bool true) ∧ Below w.heap.size w w' := by
  go_enter Try.func3, Try.ntmps3
  go_wp2_with fail
  refine (chunkFact_any _).mono ?_
  rintro e w1 ⟨rfl, hb1⟩
  have HB1 := Lib.hid hb1
  clear hb1
  by_cases h1 : 2000 < a.size + e.size
  · have q1 : decide (2000 < (a.size : Int) + (e.size : Int)) = true := decide_eq_true (by omega)
    go_wp2_with fail
    go_ret
    exact ⟨rfl, HB1.out⟩
  have q1 : decide (2000 < (a.size : Int) + (e.size : Int)) = false := decide_eq_false (by omega)
  by_cases h2 : 2000 < b.size + e.size
  · have q2 : decide (2000 < (b.size : Int) + (e.size : Int)) = true := decide_eq_true (by omega)
    go_wp2_with fail
    go_ret
    exact ⟨rfl, HB1.out⟩
  have q2 : decide (2000 < (b.size : Int) + (e.size : Int)) = false := decide_eq_false (by omega)
  by_cases h3 : e.size = 0
  · have q3 : ((e.size : Int) == 0) = true := beq_iff_eq.2 (by omega)
    go_wp2_with fail
    go_ret
    exact ⟨rfl, HB1.out⟩
  have q3 : ((e.size : Int) == 0) = false := beq_eq_false_iff_ne.2 (by omega)
  have k1 : (a ++ e).size ≤ 2000 := by rw [ByteArray.size_append]; omega
  have k2 : (b ++ e).size ≤ 2000 := by rw [ByteArray.size_append]; omega
  have K1 := Lib.hid k1
  have K2 := Lib.hid k2
  clear k1 k2
  go_wp2_with fail
  refine (cuts_any (a ++ e) _ K1.out).mono ?_
  rintro _ w2 ⟨v2, rfl, hown2, hb2⟩
  have HB2 := Lib.hid (HB1.out.trans (hb2.mono HB1.out.size))
  have hi2 := (HasInts.of_own hown2).2
  clear hb2 hown2
  go_wp2_with fail
  refine (cuts_any (b ++ e) _ K2.out).mono ?_
  rintro _ w3 ⟨v3, rfl, hown3, hb3⟩
  have HB3 := Lib.hid (HB2.out.trans (hb3.mono HB2.out.size))
  have HX := Lib.hid (hi2.below hb3)
  have HY := Lib.hid (HasInts.of_own hown3).2
  clear hb3 hown3 hi2
  have sx : (cutsI (a ++ e).data.toList).length ≤ 4000 := by
    have := run_length (a ++ e).data.toList (a ++ e).data.toList.length
    have := K1.out
    unfold cutsI cuts
    rw [List.length_map]
    simp at *; omega
  have sy : (cutsI (b ++ e).data.toList).length ≤ 4000 := by
    have := run_length (b ++ e).data.toList (b ++ e).data.toList.length
    have := K2.out
    unfold cutsI cuts
    rw [List.length_map]
    simp at *; omega
  obtain ⟨X, hX⟩ : ∃ X, X = cutsI (a ++ e).data.toList := ⟨_, rfl⟩
  obtain ⟨Y, hY⟩ : ∃ Y, Y = cutsI (b ++ e).data.toList := ⟨_, rfl⟩
  rw [← hX] at HX sx
  rw [← hY] at HY sy
  have EX := Lib.hid hX
  have EY := Lib.hid hY
  clear hX hY
  go_upto_region 10 with fail
  go_cut [81] (fun s wx => (s = .bool true ∨ (s = .bool false ∧ Hid (¬ Bad a b X Y))) ∧ wx = w3)
  case first =>
    obtain ⟨qa, hqa, ta, fa⟩ : ∃ q, decide ((a.size : Int) ∈ X) = q ∧ (q = true → (a.size : Int) ∈ X) ∧ (q = false → (a.size : Int) ∉ X) := ⟨_, rfl, of_decide_eq_true, of_decide_eq_false⟩
    obtain ⟨qb, hqb, tb, fb⟩ : ∃ q, decide ((b.size : Int) ∈ Y) = q ∧ (q = true → (b.size : Int) ∈ Y) ∧ (q = false → (b.size : Int) ∉ Y) := ⟨_, rfl, of_decide_eq_true, of_decide_eq_false⟩
    have HQA := Lib.hid hqa
    have HQB := Lib.hid hqb
    have FIN : Hid (((0 < a.size ∧ qa = false) ∨ (0 < b.size ∧ qb = false)) ∨ ¬ Bad a b X Y) := by
      show _ ∨ ¬ _
      unfold Bad
      rcases Nat.eq_zero_or_pos a.size with p1 | p1
      · rcases Nat.eq_zero_or_pos b.size with p2 | p2
        · right; omega
        · cases qb
          · exact .inl (.inr ⟨p2, rfl⟩)
          · right; rintro (h | h); omega; exact h.2 (tb rfl)
      · cases qa
        · exact .inl (.inl ⟨p1, rfl⟩)
        · cases qb
          · rcases Nat.eq_zero_or_pos b.size with p2 | p2
            · right; rintro (h | h); exact h.2 (ta rfl); omega
            · exact .inl (.inr ⟨p2, rfl⟩)
          · right; rintro (h | h); exact h.2 (ta rfl); exact h.2 (tb rfl)
    clear hqa hqb ta fa tb fb
    rcases Nat.eq_zero_or_pos a.size with p1 | p1
    · have q4 : decide (0 < (a.size : Int)) = false := decide_eq_false (by omega)
      rcases Nat.eq_zero_or_pos b.size with p2 | p2
      · have q5 : decide (0 < (b.size : Int)) = false := decide_eq_false (by omega)
        go_wp2_with fail
        go_meet
        exact ⟨.inr ⟨rfl, by have := FIN.out; rcases this with h | h; omega; exact h⟩, rfl⟩
      · have q5 : decide (0 < (b.size : Int)) = true := decide_eq_true (by omega)
        go_wp2_with fail
        refine (has_any _ Y _ _ HY.out).mono ?_
        rw [HQB.out]
        rintro e w' ⟨rfl, rfl⟩
        cases qb
        · go_wp2_with fail
          go_meet
          exact ⟨.inl rfl, rfl⟩
        · go_wp2_with fail
          go_meet
          exact ⟨.inr ⟨rfl, by have := FIN.out; rcases this with h | h; simp at h; omega; exact h⟩, rfl⟩
    · have q4 : decide (0 < (a.size : Int)) = true := decide_eq_true (by omega)
      go_wp2_with fail
      refine (has_any _ X _ _ HX.out).mono ?_
      rw [HQA.out]
      rintro e w' ⟨rfl, rfl⟩
      cases qa
      · go_wp2_with fail
        go_meet
        exact ⟨.inl rfl, rfl⟩
      · rcases Nat.eq_zero_or_pos b.size with p2 | p2
        · have q5 : decide (0 < (b.size : Int)) = false := decide_eq_false (by omega)
          go_wp2_with fail
          go_meet
          exact ⟨.inr ⟨rfl, by have := FIN.out; rcases this with h | h; simp at h; omega; exact h⟩, rfl⟩
        · have q5 : decide (0 < (b.size : Int)) = true := decide_eq_true (by omega)
          go_wp2_with fail
          refine (has_any _ Y _ _ HY.out).mono ?_
          rw [HQB.out]
          rintro e w' ⟨rfl, rfl⟩
          cases qb
          · go_wp2_with fail
            go_meet
            exact ⟨.inl rfl, rfl⟩
          · go_wp2_with fail
            go_meet
            exact ⟨.inr ⟨rfl, by have := FIN.out; rcases this with h | h; simp at h; exact h⟩, rfl⟩
  case rest =>
    obtain ⟨hcut, rfl⟩ := hcut
    rcases hcut with rfl | ⟨rfl, HBAD⟩
    · go_wp2_with fail
      go_ret
      exact ⟨rfl, HB3.out⟩
    · have hbad : ¬ Bad a b X Y := HBAD.out
      have SH1 := Lib.hid (show loc a.size X = cutsI e.data.toList from by
        rw [EX.out]
        unfold cutsI
        rw [ByteArray.data_append, Array.toList_append, show a.size = a.data.toList.length from by simp]
        exact loc_shift _ _ (by
          rcases Nat.eq_zero_or_pos a.size with h | h
          · left; simpa using h
          · right
            refine Classical.byContradiction fun hn => hbad (.inl ⟨h, ?_⟩)
            rw [EX.out]
            unfold cutsI
            simpa using hn))
      have SH2 := Lib.hid (show loc b.size Y = cutsI e.data.toList from by
        rw [EY.out]
        unfold cutsI
        rw [ByteArray.data_append, Array.toList_append, show b.size = b.data.toList.length from by simp]
        exact loc_shift _ _ (by
          rcases Nat.eq_zero_or_pos b.size with h | h
          · left; simpa using h
          · right
            refine Classical.byContradiction fun hn => hbad (.inr ⟨h, ?_⟩)
            rw [EY.out]
            unfold cutsI
            simpa using hn))
      have BB1 := Lib.hid (show ∀ x ∈ X, 0 ≤ x ∧ x ≤ 4000 from fun x hx => by rw [EX.out] at hx; have := cutsI_bound hx; have := K1.out; simp at *; omega)
      have BB2 := Lib.hid (show ∀ x ∈ Y, 0 ≤ x ∧ x ≤ 4000 from fun x hx => by rw [EY.out] at hx; have := cutsI_bound hx; have := K2.out; simp at *; omega)
      clear hbad
      have hy := HY.out
      obtain ⟨ax, cx, rfl, lx1, lx2, hcx⟩ := HX.out
      obtain ⟨ay, cy, rfl, ly1, ly2, hcy⟩ := hy
      obtain ⟨n1, hn1⟩ : ∃ n1, n1 = X.length := ⟨_, rfl⟩
      obtain ⟨n2, hn2⟩ : ∃ n2, n2 = Y.length := ⟨_, rfl⟩
      rw [← hn1] at sx hcx ⊢
      rw [← hn2] at sy hcy ⊢
      have HN1 := Lib.hid hn1
      have HN2 := Lib.hid hn2
      have HC1 := Lib.hid hcx
      have HC2 := Lib.hid hcy
      clear hn1 hn2 hcx hcy lx1 lx2 ly1 ly2
      go_wp2_with fail
      go_loopw [12, 14] (fun u i wr => ∃ k : Nat, k ≤ n1 ∧ i = .int .i64 k ∧ LocRel wc wr a.size X k u) (fun _ i _ => n1 - (intOf i).toNat)
      case atStart => exact ⟨0, Nat.zero_le _, rfl, World.ownsRow_nil .., Below.refl ..⟩
      case round =>
        obtain ⟨k, hk, rfl, hrel⟩ := hrel
        obtain ⟨hown, hb⟩ := hrel
        have HOWN := Lib.hid hown
        have HB := Lib.hid hb
        clear hown hb
        by_cases hlt : k < n1
        · obtain ⟨bx, ox, rfl, hbx, hcx⟩ := HC1.out (by omega)
          obtain ⟨x, hx⟩ : ∃ x, X[k]? = some x := ⟨_, List.getElem?_eq_getElem (by have := HN1.out; omega)⟩
          have hxc := hcx k x hx
          rw [← HB.out.cell (p := ⟨bx, ox + k, none⟩) hbx] at hxc
          have hxb := BB1.out x (List.mem_of_getElem? hx)
          have hx0 := hxb.1
          have hx1 := hxb.2
          have EK := Lib.hid hx
          have HN1 := Lib.hid (show (loc a.size (X.take k)).length + 1 ≤ maxLen from by have := loc_le a.size X k; unfold maxLen; omega)
          have HN2 := Lib.hid (show ((loc a.size (X.take k)).length + 1) * 8 ≤ 140737488355328 from by have := loc_le a.size X k; omega)
          clear hx hxb hcx
          by_cases hgt : (a.size : Int) < x
          · have q6 : decide ((a.size : Int) < x) = true := decide_eq_true hgt
            go_wp2_with (at_builtin; go_must (refine wpList_push (.int .i64 0) 8 HOWN.out Try.underlying23 infoInt rfl rfl rfl rfl HN1.out HN2.out HB.out.size ?_; intro v' w5 hown1 hbel1 _; have HO1 := Lib.hid hown1; have HB1 := Lib.hid (HB.out.trans hbel1); clear hown1 hbel1))
            go_roundw
            case rel => exact ⟨k + 1, by omega, by go_num, locRel_yes EK.out hgt HO1.out HB1.out⟩
            case measure => simp [intOf]; omega
          · have q6 : decide ((a.size : Int) < x) = false := decide_eq_false hgt
            go_wp2_with fail
            go_roundw
            case rel => exact ⟨k + 1, by omega, by go_num, locRel_no EK.out hgt HOWN.out HB.out⟩
            case measure => simp [intOf]; omega
        · obtain rfl : k = n1 := by omega
          have hfull := HOWN.out
          rw [List.take_of_length_le (by have := HN1.out; omega), SH1.out] at hfull
          obtain ⟨wp, rfl⟩ : ∃ wp : World, wp = wr := ⟨_, rfl⟩
          obtain ⟨up, rfl⟩ : ∃ up : Value, up = u12 := ⟨_, rfl⟩
          have HP := Lib.hid hfull
          have HBP := Lib.hid HB.out
          have HC2 := Lib.hid (show 0 < n2 → ∃ b off, ay = some ⟨b, off, none⟩ ∧ b < wp.heap.size ∧ ∀ j x, Y[j]? = some x → wp.cell? ⟨b, off + j, none⟩ = some (.int .i64 x) from fun h => by
            obtain ⟨b, off, h1, h2, h3⟩ := HC2.out h
            refine ⟨b, off, h1, Nat.lt_of_lt_of_le h2 HBP.out.size, fun j x hx => ?_⟩
            rw [HBP.out.cell (p := ⟨b, off + j, none⟩) h2]
            exact h3 j x hx)
          clear hfull HOWN HB
          go_wp2_with fail
          go_loopw [13, 15] (fun u i wr => ∃ k : Nat, k ≤ n2 ∧ i = .int .i64 k ∧ LocRel wp wr b.size Y k u) (fun _ i _ => n2 - (intOf i).toNat)
          case atStart => exact ⟨0, Nat.zero_le _, rfl, World.ownsRow_nil .., Below.refl ..⟩
          case round =>
            obtain ⟨k, hk, rfl, hrel⟩ := hrel
            obtain ⟨hown, hb⟩ := hrel
            have HOWN := Lib.hid hown
            have HB := Lib.hid hb
            clear hown hb
            by_cases hlt : k < n2
            · obtain ⟨bx, ox, rfl, hbx, hcx⟩ := HC2.out (by omega)
              obtain ⟨x, hx⟩ : ∃ x, Y[k]? = some x := ⟨_, List.getElem?_eq_getElem (by have := HN2.out; omega)⟩
              have hxc := hcx k x hx
              rw [← HB.out.cell (p := ⟨bx, ox + k, none⟩) hbx] at hxc
              have hxb := BB2.out x (List.mem_of_getElem? hx)
              have hx0 := hxb.1
              have hx1 := hxb.2
              have EK := Lib.hid hx
              have HN1 := Lib.hid (show (loc b.size (Y.take k)).length + 1 ≤ maxLen from by have := loc_le b.size Y k; unfold maxLen; omega)
              have HN2 := Lib.hid (show ((loc b.size (Y.take k)).length + 1) * 8 ≤ 140737488355328 from by have := loc_le b.size Y k; omega)
              clear hx hxb hcx
              by_cases hgt : (b.size : Int) < x
              · have q6 : decide ((b.size : Int) < x) = true := decide_eq_true hgt
                go_wp2_with (at_builtin; go_must (refine wpList_push (.int .i64 0) 8 HOWN.out Try.underlying23 infoInt rfl rfl rfl rfl HN1.out HN2.out HB.out.size ?_; intro v' w5 hown1 hbel1 _; have HO1 := Lib.hid hown1; have HB1 := Lib.hid (HB.out.trans hbel1); clear hown1 hbel1))
                go_roundw
                case rel => exact ⟨k + 1, by omega, by go_num, locRel_yes EK.out hgt HO1.out HB1.out⟩
                case measure => simp [intOf]; omega
              · have q6 : decide ((b.size : Int) < x) = false := decide_eq_false hgt
                go_wp2_with fail
                go_roundw
                case rel => exact ⟨k + 1, by omega, by go_num, locRel_no EK.out hgt HOWN.out HB.out⟩
                case measure => simp [intOf]; omega
            · obtain rfl : k = n2 := by omega
              have hfull := HOWN.out
              rw [List.take_of_length_le (by have := HN2.out; omega), SH2.out] at hfull
              obtain ⟨wq, rfl⟩ : ∃ wq : World, wq = wr := ⟨_, rfl⟩
              obtain ⟨uq, rfl⟩ : ∃ uq : Value, uq = u13 := ⟨_, rfl⟩
              have HQ := Lib.hid hfull
              have HBQ := Lib.hid HB.out
              have hp3 := ownsRow_later HP.out HBQ.out
              clear hfull HOWN HB
              go_wp2_with fail
              refine (cuts_any e _ (by omega)).mono ?_
              rintro _ w9 ⟨v9, rfl, hown9, hb9⟩
              have hpi := (HasInts.of_own (ownsRow_later hp3 hb9)).2
              have hqi := (HasInts.of_own (ownsRow_later HQ.out hb9)).2
              have hzi := (HasInts.of_own hown9).2
              have HBZ := Lib.hid (HB3.out.trans ((HBP.out.trans (HBQ.out.mono HBP.out.size)).mono HB3.out.size |>.trans (hb9.mono (Nat.le_trans HB3.out.size (Nat.le_trans HBP.out.size HBQ.out.size)))))
              have P1 := Lib.hid hpi
              have P2 := Lib.hid hqi
              have P3 := Lib.hid hzi
              clear hpi hqi hzi hown9 hb9 hp3
              go_wp2_with fail
              refine (ints_any _ _ _ _ _ P1.out P2.out).mono ?_
              rintro _ wa ⟨rfl, d1, rfl⟩
              go_wp2_with fail
              refine (ints_any _ _ _ _ _ (P1.out.drewN d1) (P3.out.drewN d1)).mono ?_
              rintro _ wb ⟨rfl, d2, rfl⟩
              go_wp2_with fail
              go_ret
              exact ⟨rfl, below_drewN HBZ.out _⟩

end Go.Proofs.Ytnkihdkcmhbhkaa
