/- The walk of SnapDrop. -/
import Derived.Test.YtgiehdlkgjmojaaDoorTurns
import Derived.Deep.RegionHeld3
import Derived.Deep.DrawnRows
namespace Go.Proofs.YtgiehdlkgjmojaaDoor
open Go.RowKit
attribute [local go_sem ↓] Go.wp_at_zero Go.wp_at_succ

/-- x is in no plane but k's (asked so far of j snapshots) -/
def alTo (s : Vol) (k x : Int) (j : Nat) : Bool := !decide (x ∈ bitsOf s.now) && (List.range j).all fun q => decide ((q : Int) = k) || !decide (x ∈ ofList s q)

theorem alTo_zero (s : Vol) (k x : Int) : alTo s k x 0 = !decide (x ∈ bitsOf s.now) := by simp [alTo]
theorem alTo_step (s : Vol) (k x : Int) (j : Nat) : alTo s k x (j + 1) = (alTo s k x j && (decide ((j : Int) = k) || !decide (x ∈ ofList s j))) := by
  unfold alTo
  rw [List.range_succ, List.all_append]
  simp [Bool.and_assoc]
theorem alTo_no {s : Vol} {k x : Int} {j : Nat} (h : alTo s k x j = false) : alTo s k x (j + 1) = false := by rw [alTo_step, h]; rfl
theorem alTo_own {s : Vol} {k x : Int} {j : Nat} (h : alTo s k x j = true) (e : (j : Int) = k) : alTo s k x (j + 1) = true := by rw [alTo_step, h]; simp [e]
theorem alTo_ask {s : Vol} {k x : Int} {j : Nat} (h : alTo s k x j = true) (e : (j : Int) ≠ k) : alTo s k x (j + 1) = !decide (x ∈ ofList s j) := by rw [alTo_step, h]; simp [e]

def alN (s : Vol) (k : Int) (L : List Int) (i : Nat) : Nat := ((L.take i).filter fun x => alTo s k x 4).length
theorem alN_le (s : Vol) (k : Int) (L : List Int) (i : Nat) : alN s k L i ≤ i := by
  unfold alN
  have h1 := List.length_filter_le (fun x => alTo s k x 4) (L.take i)
  have h2 : (L.take i).length ≤ i := by simp; omega
  omega
theorem alN_step (s : Vol) (k : Int) (L : List Int) (i : Nat) (x : Int) (hx : L[i]? = some x) : alN s k L (i + 1) = alN s k L i + if alTo s k x 4 then 1 else 0 := by
  unfold alN
  rw [List.take_add_one, hx]
  simp only [Option.toList_some, List.filter_append, List.length_append]
  cases h : alTo s k x 4 <;> simp [h]

theorem popN_part (x y z n : Nat) (al : Int → Bool) (h : ∀ j, j < n → x.testBit j = (y.testBit j || z.testBit j)) (ha : ∀ j : Nat, j < n → z.testBit j = true → al j = !y.testBit j) :
    popN n x = popN n y + ((bitsTo z n).filter al).length := by
  induction n with
  | zero => simp [popN, bitsTo]
  | succ n ih =>
    simp only [popN]
    have h1 := ih (fun j hj => h j (by omega)) (fun j hj => ha j (by omega))
    have h2 := h n (by omega)
    cases hz : z.testBit n
    · rw [bitsTo_no hz, h1, h2, hz, Bool.or_false]; omega
    · have h3 := ha n (by omega) hz
      rw [bitsTo_yes hz, h1, h2, hz, List.filter_append, List.length_append]
      cases hy : y.testBit n
      · rw [hy] at h3
        simp [h3]; omega
      · rw [hy] at h3
        simp [h3]; omega

theorem mem_bits_nat {x j : Nat} (hj : j < 32) : decide ((j : Int) ∈ bitsOf x) = x.testBit j := by
  cases h : x.testBit j
  · apply decide_eq_false
    intro hm
    obtain ⟨i, e, -, hb⟩ := mem_bits.1 hm
    have : i = j := by omega
    subst this
    rw [h] at hb
    cases hb
  · exact decide_eq_true (mem_bits.2 ⟨j, rfl, hj, h⟩)

/-- what a dropped snapshot frees -/
theorem drop_frees {s : Vol} {k : Nat} (hk : k < 4) : (((s.setP k 0 false).free : Nat) : Int) - (s.free : Nat) = (alN s k (ofList s k) (ofList s k).length : Nat) := by
  have e1 : ofList s k = bitsOf (s.p k) := by unfold ofList; rw [if_pos (by omega)]; rfl
  have e2 : popN 32 s.all = popN 32 (s.setP k 0 false).all + alN s k (ofList s k) (ofList s k).length := by
    unfold alN
    rw [List.take_length, e1]
    apply popN_part
    · intro j hj
      rw [all_bit, all_bit]
      rcases k with _ | _ | _ | _ | k
      · simp [Vol.setP] <;> (cases s.now.testBit j <;> cases (s.p 0).testBit j <;> cases (s.p 1).testBit j <;> cases (s.p 2).testBit j <;> cases (s.p 3).testBit j <;> rfl)
      · simp [Vol.setP] <;> (cases s.now.testBit j <;> cases (s.p 0).testBit j <;> cases (s.p 1).testBit j <;> cases (s.p 2).testBit j <;> cases (s.p 3).testBit j <;> rfl)
      · simp [Vol.setP] <;> (cases s.now.testBit j <;> cases (s.p 0).testBit j <;> cases (s.p 1).testBit j <;> cases (s.p 2).testBit j <;> cases (s.p 3).testBit j <;> rfl)
      · simp [Vol.setP] <;> (cases s.now.testBit j <;> cases (s.p 0).testBit j <;> cases (s.p 1).testBit j <;> cases (s.p 2).testBit j <;> cases (s.p 3).testBit j <;> rfl)
      · omega
    · intro j hj hz
      have o0 : ofList s (0 : Nat) = bitsOf (s.p 0) := rfl
      have o1 : ofList s (1 : Nat) = bitsOf (s.p 1) := rfl
      have o2 : ofList s (2 : Nat) = bitsOf (s.p 2) := rfl
      have o3 : ofList s (3 : Nat) = bitsOf (s.p 3) := rfl
      rw [all_bit, alTo_step, alTo_step, alTo_step, alTo_step, alTo_zero, o0, o1, o2, o3, mem_bits_nat hj, mem_bits_nat hj, mem_bits_nat hj, mem_bits_nat hj, mem_bits_nat hj]
      rcases k with _ | _ | _ | _ | k
      · simp [Vol.setP] <;> (cases s.now.testBit j <;> cases (s.p 0).testBit j <;> cases (s.p 1).testBit j <;> cases (s.p 2).testBit j <;> cases (s.p 3).testBit j <;> rfl)
      · simp [Vol.setP] <;> (cases s.now.testBit j <;> cases (s.p 0).testBit j <;> cases (s.p 1).testBit j <;> cases (s.p 2).testBit j <;> cases (s.p 3).testBit j <;> rfl)
      · simp [Vol.setP] <;> (cases s.now.testBit j <;> cases (s.p 0).testBit j <;> cases (s.p 1).testBit j <;> cases (s.p 2).testBit j <;> cases (s.p 3).testBit j <;> rfl)
      · simp [Vol.setP] <;> (cases s.now.testBit j <;> cases (s.p 0).testBit j <;> cases (s.p 1).testBit j <;> cases (s.p 2).testBit j <;> cases (s.p 3).testBit j <;> rfl)
      · omega
  have h1 := popN_le 32 s.all
  have h2 := popN_le 32 (s.setP k 0 false).all
  unfold Vol.free
  omega

structure DropLoop (W wr : World) (g : Nat) (s : Vol) (l : Value) (L : List Int) : Prop where
  vol : VolIs wr g s
  reads : HasInts wr l L
  below : Below W.heap.size W wr

theorem HasInts.lies {w : World} {a : Option Addr} {n cap : Nat} {L : List Int} (h : HasInts w (.slice a n cap) L) {j : Nat} {x : Int} (hx : L[j]? = some x) :
    ∃ b off, a = some ⟨b, off, none⟩ ∧ w.cell? ⟨b, off + j, none⟩ = some (.int .i64 x) := by
  obtain ⟨a', cap', h1, -, -, h4⟩ := h
  cases h1
  obtain ⟨b, off, h5, -, h6⟩ := h4 (Nat.lt_of_le_of_lt (Nat.zero_le _) (List.getElem?_eq_some_iff.1 hx).1)
  exact ⟨b, off, h5, h6 j x hx⟩

theorem DropLoop.later {W wr w' : World} {g : Nat} {s : Vol} {l : Value} {L : List Int} (h : DropLoop W wr g s l L) (hb : Below wr.heap.size wr w') : DropLoop W w' g s l L :=
  ⟨h.vol.below hb, h.reads.below hb, h.below.trans (hb.mono h.below.size)⟩

theorem dropS {W w : World} {g : Nat} {s : Vol} {a : Option Addr} {n cap b o j : Nat} {L : List Int} {x : Int} (hx : L[j]? = some x) (e : a = some ⟨b, o, none⟩) (h : DropLoop W w g s (.slice a n cap) L) :
    w.cell? ⟨b, o + j, none⟩ = some (.int .i64 x) ∧ DropLoop W w g s (.slice a n cap) L := by
  obtain ⟨b', o', h1, h2⟩ := h.reads.lies hx
  rw [e] at h1
  cases h1
  exact ⟨h2, h⟩

theorem ret_not {a b : Bool} (h : a = b) : (Value.bool a) = .bool b := by rw [h]

set_option maxRecDepth 100000 in
set_option maxHeartbeats 4000000 in
theorem drops_walk (v0 : Value) (k : Int) (W : World) {rs : List (List Int)} (hr0 : RowsArg W v0 rs) (_hk : -9223372036854775808 ≤ k ∧ k ≤ 9223372036854775807) (hT : Tabled W) :
    Calls Tryd.prog 6 #[v0, .int .i64 k] W fun e w' => e = .returned (.bool true) ∧ Below W.heap.size W w' := by
  have HR := Lib.hid hr0.1
  have HT := Lib.hid hT
  clear hT hr0
  go_enter Tryd.func6, Tryd.ntmps6
  go_wp2_with fail
  refine (snapFact_walk _ HT.out).mono ?_
  rintro _ w1 ⟨rfl, hb⟩
  have HB1 := Lib.hid hb
  clear hb
  go_wp2_with fail
  refine (planed_walk _ rs _ (HR.out.below HB1.out) (HT.out.below HB1.out)).mono ?_
  rintro _ w2 ⟨g, rfl, hg, ⟨s, hv⟩, hb⟩
  have HB2 := Lib.hid (HB1.out.trans (hb.mono HB1.out.size))
  have hgw : W.heap.size ≤ g := Nat.le_trans HB1.out.size hg
  have HV2 := Lib.hid hv
  clear hb hv hg
  go_wp2_with fail
  refine (of_any g s k _ HV2.out).mono ?_
  rintro _ w3 ⟨⟨l, rfl, hl, -⟩, hb3⟩
  have HL3 := Lib.hid hl
  have HV3 := Lib.hid (HV2.out.below hb3)
  have HB3 := Lib.hid (HB2.out.trans (hb3.mono HB2.out.size))
  obtain ⟨L, hL⟩ : ∃ L, L = ofList s k := ⟨_, rfl⟩
  have hn32 : L.length ≤ 32 := by
    rw [hL]
    unfold ofList
    split
    · have := bits_length (s.p k.toNat) 32
      have := popN_le 32 (s.p k.toNat)
      unfold bitsTo at *
      unfold bitsOf
      omega
    · simp
  rw [← hL] at HL3
  have HLE := Lib.hid hL
  obtain ⟨n, hn⟩ : ∃ n, n = L.length := ⟨_, rfl⟩
  rw [← hn] at hn32
  have HN := Lib.hid hn
  clear hb3 hl hL hn
  go_wp2_with fail
  refine (free_walk g s _ HV3.out).mono ?_
  have hfl := free_le s
  obtain ⟨fr, hfr⟩ : ∃ fr, fr = s.free := ⟨_, rfl⟩
  rw [← hfr] at hfl ⊢
  have HFR := Lib.hid hfr
  clear hfr
  rintro _ w4 ⟨rfl, d4, rfl⟩
  have hls : ∃ a cap, l = .slice a n cap := by
    obtain ⟨a, cap, h, -⟩ := HL3.out
    exact ⟨a, cap, by rw [HN.out]; exact h⟩
  obtain ⟨la, lcap, rfl⟩ := hls
  go_wp2_with fail
  go_loopw [9, 10] (fun want i wr => ∃ j : Nat, j ≤ n ∧ i = .int .i64 j ∧ want = .int .i64 (alN s k L j : Nat) ∧ DropLoop W wr g s (.slice la n lcap) L) (fun _ i _ => n - (intOf i).toNat)
  case atStart => exact ⟨0, by omega, rfl, rfl, HV3.out.drewN _, HL3.out.drewN _, below_drewN HB3.out _⟩
  case round =>
    obtain ⟨j, hj, rfl, rfl, hv, hl, hb⟩ := hrel
    have HV := Lib.hid hv
    have HL := Lib.hid hl
    have HB := Lib.hid hb
    clear hv hl hb
    have hcj := alN_le s k L j
    by_cases hlt : j < n
    · have q1 : decide (j < n) = true := decide_eq_true hlt
      obtain ⟨x, hx⟩ : ∃ x, L[j]? = some x := ⟨_, List.getElem?_eq_getElem (by have := HN.out; omega)⟩
      have HST := Lib.hid (alN_step s k L j x hx)
      obtain ⟨c, hc⟩ : ∃ c, c = alN s k L j := ⟨_, rfl⟩
      rw [← hc] at hcj HST ⊢
      clear hc
      obtain ⟨b, off, rfl, -⟩ := HL.out.lies hx
      have HX := Lib.hid hx
      clear hx
      have hS0 := dropS HX.out rfl (⟨HV.out.drewN 1, HL.out.drewN 1, below_drewN HB.out 1⟩ : DropLoop W (wr.drewN 1) g s (.slice (some ⟨b, off, none⟩) n lcap) L)
      have hj0 : (0 : Int) ≤ (j : Int) := Int.natCast_nonneg _
      have hj1 : (j : Int) < (n : Int) := by omega
      go_wp2_with fail
      go_region_held3 (fun w' => w'.cell? ⟨b, off + j, none⟩ = some (.int .i64 x) ∧ DropLoop W w' g s (.slice (some ⟨b, off, none⟩) n lcap) L)
        (first
          | assumption
          | exact hS0
          | exact dropS HX.out rfl (DropLoop.later (And.right (by assumption)) hb5))
        (first
          | (go_at_call 15; refine (now_walk g s _ (DropLoop.vol (And.right (by assumption)))).mono ?_; rintro _ w5 ⟨⟨u, rfl, hu, -⟩, hb5⟩)
          | (go_at_call 20; refine (has_any _ _ _ _ hu).mono ?_; rintro _ w6 ⟨rfl, rfl⟩))
      have HD5 := Lib.hid (show DropLoop W w5 g s (.slice (some ⟨b, off, none⟩) n lcap) L from And.right (by assumption))
      have HAL := Lib.hid (alTo_zero s k x)
      clear hS0 hu hb5
      go_wp2_with fail
      go_loopw [11, 12] (fun al q wr => ∃ m : Nat, m ≤ 4 ∧ q = .int .i64 m ∧ al = .bool (alTo s k x m) ∧ DropLoop W wr g s (.slice (some ⟨b, off, none⟩) n lcap) L) (fun _ q _ => 4 - (intOf q).toNat)
      case atStart => exact ⟨0, by omega, rfl, ret_not HAL.out.symm, HD5.out⟩
      case round =>
        obtain ⟨m, hm, rfl, rfl, hd⟩ := hrel
        have HD := Lib.hid hd
        clear hd
        by_cases hlt4 : m < 4
        · have q2 : decide ((m : Int) < 4) = true := decide_eq_true (by omega)
          cases hal : alTo s k x m
          · have HN1 := Lib.hid (alTo_no hal)
            clear hal
            go_wp2_with fail
            go_region
            go_wp2_with fail
            go_roundw
            case rel => exact ⟨m + 1, by omega, by go_num, ret_not (by rw [HN1.out]), HD.out.vol.drewN 1, HD.out.reads.drewN 1, below_drewN HD.out.below 1⟩
            case measure => simp [intOf]; omega
          · by_cases hmk : (m : Int) = k
            · have q3 : ((m : Int) == k) = true := beq_iff_eq.2 hmk
              have HN1 := Lib.hid (alTo_own hal hmk)
              clear hal hmk
              go_wp2_with fail
              go_region
              go_wp2_with fail
              go_roundw
              case rel => exact ⟨m + 1, by omega, by go_num, ret_not (by rw [HN1.out]), HD.out.vol.drewN 1, HD.out.reads.drewN 1, below_drewN HD.out.below 1⟩
              case measure => simp [intOf]; omega
            · have q3 : ((m : Int) == k) = false := beq_eq_false_iff_ne.2 hmk
              have HN1 := Lib.hid (alTo_ask hal hmk)
              clear hal hmk
              have hS0 := dropS HX.out rfl (⟨HD.out.vol.drewN 1, HD.out.reads.drewN 1, below_drewN HD.out.below 1⟩ : DropLoop W (wr.drewN 1) g s (.slice (some ⟨b, off, none⟩) n lcap) L)
              go_wp2_with fail
              go_region_held3 (fun w' => w'.cell? ⟨b, off + j, none⟩ = some (.int .i64 x) ∧ DropLoop W w' g s (.slice (some ⟨b, off, none⟩) n lcap) L)
                (first
                  | assumption
                  | exact hS0
                  | exact dropS HX.out rfl (DropLoop.later (And.right (by assumption)) hb5))
                (first
                  | (go_at_call 19; refine (of_any g s m _ (DropLoop.vol (And.right (by assumption)))).mono ?_; rintro _ w5 ⟨⟨u, rfl, hu, -⟩, hb5⟩)
                  | (go_at_call 20; refine (has_any _ _ _ _ hu).mono ?_; rintro _ w6 ⟨rfl, rfl⟩))
              go_wp2_with fail
              go_roundw
              case rel => exact ⟨m + 1, by omega, by go_num, ret_not (by rw [HN1.out]), And.right (by assumption)⟩
              case measure => simp [intOf]; omega
        · obtain rfl : m = 4 := by omega
          cases hal : alTo s k x 4
          · go_wp2_with fail
            rw [hal] at HST
            have hst := HST.out
            go_roundw
            case rel => exact ⟨j + 1, by omega, by go_num, by rw [hst]; go_num, HD.out⟩
            case measure => simp [intOf]; omega
          · go_wp2_with fail
            rw [hal] at HST
            have hst := HST.out
            go_roundw
            case rel => exact ⟨j + 1, by omega, by go_num, by rw [hst]; go_num, HD.out⟩
            case measure => simp [intOf]; omega
    · obtain rfl : j = n := by omega
      have q1 : decide (j < j) = false := decide_eq_false hlt
      obtain ⟨c, hc⟩ : ∃ c, c = alN s k L j := ⟨_, rfl⟩
      rw [← hc] at hcj ⊢
      have HC := Lib.hid hc
      clear hc
      go_wp2_with fail
      refine (drop_any g s k _ HV.out).mono ?_
      rintro _ w5 ⟨n5, ev, s', rfl, hrel', hv5, hg5⟩
      have HV5 := Lib.hid hv5
      have HB5 := Lib.hid (below_grown_some HB.out hgw hg5)
      clear hv5 hg5
      rcases hrel' with ⟨rfl, kk, rfl, hk4, hbk, rfl, hn5⟩ | ⟨c5, rfl, rfl, rfl, -⟩
      · have h1 := drop_frees (s := s) hk4
        rw [← hn5, ← HLE.out, ← HN.out, ← HC.out] at h1
        obtain rfl : n5 = (c : Int) := h1
        have h2 : (s.setP kk 0 false).free = fr + c := by have := HFR.out; omega
        have h3 : ofList (s.setP kk 0 false) kk = [] := by unfold ofList; rw [if_pos (by omega)]; simp [Vol.setP, bitsOf]
        have H2 := Lib.hid h2
        have H3 := Lib.hid h3
        clear h2 h3 hbk hn5
        go_wp2_with fail
        refine (free_walk g _ _ HV5.out).mono ?_
        rw [H2.out]
        obtain ⟨f6, hf6⟩ : ∃ f6, f6 = fr + c := ⟨_, rfl⟩
        rw [← hf6]
        have q4 : IntKind.i64.wrap ((fr : Int) + (c : Int)) = (f6 : Int) := by rw [IntWalk.i64_in _ (by omega)]; omega
        clear hf6
        rintro _ w6 ⟨rfl, d6, rfl⟩
        go_wp2_with fail
        refine (of_any g _ kk _ (HV5.out.drewN d6)).mono ?_
        rw [H3.out]
        rintro _ w7 ⟨⟨u, rfl, hu, -⟩, hb7⟩
        have HB7 := Lib.hid ((below_drewN HB5.out d6).trans (hb7.mono (below_drewN HB5.out d6).size))
        obtain ⟨ua, ucap, rfl, -⟩ := hu
        clear hb7
        go_wp2_with fail
        go_ret
        exact ⟨rfl, HB7.out⟩
      · go_wp2_with fail
        refine (free_walk g _ _ HV5.out).mono ?_
        rw [← HFR.out]
        rintro _ w6 ⟨rfl, d6, rfl⟩
        go_wp2_with fail
        go_ret
        exact ⟨rfl, below_drewN HB5.out d6⟩

end Go.Proofs.YtgiehdlkgjmojaaDoor
