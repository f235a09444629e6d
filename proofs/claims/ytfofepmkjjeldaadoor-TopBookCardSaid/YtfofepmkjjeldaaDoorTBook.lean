/- The walk of TopBook. -/
import Derived.Test.YtfofepmkjjeldaaDoorWal4
import Derived.Test.YtfofepmkjjeldaaDoorReadRows
import Derived.StillTailTactics
namespace Go.Proofs.YtfofepmkjjeldaaDoor
open Go.RowKit

/-- what a round begins with: a book and a log that say the same -/
structure TB (W w : World) (g bm gw k : Nat) (b : Bk) (L : List Rec) (E : List (Nat × Nat)) : Prop where
  book : BookIs w g b
  ok : b.ok ∧ b.told
  disk : DiskAt w bm gw L E
  same : b.B = vals L
  grp : b.G = ofTurn L k
  small : ∀ r ∈ L, r.blk < 8 ∧ r.turn ≤ k
  ended : ∀ e ∈ E, e.1 < k
  lo : W.heap.size ≤ g ∧ W.heap.size ≤ bm
  below : Below W.heap.size W w

theorem TB.later {W w w' : World} {g bm gw k : Nat} {b : Bk} {L : List Rec} {E : List (Nat × Nat)} (h : TB W w g bm gw k b L E) (hb : Below w.heap.size w w') : TB W w' g bm gw k b L E :=
  ⟨h.book.later hb, h.ok, h.disk.later hb, h.same, h.grp, h.small, h.ended, h.lo, h.below.trans (hb.mono h.below.size)⟩
theorem TB.fresh {E : List (Nat × Nat)} {k : Nat} (h : ∀ e ∈ E, e.1 < k) : ∀ e ∈ E, e.1 ≠ k := fun e he => by have := h e he; omega

/-- a pair was written in both, or in none -/
theorem TB.wrote {W w w1 w2 : World} {g bm gw k : Nat} {b : Bk} {L : List Rec} {E : List (Nat × Nat)} {p x : Int} (h : TB W w g bm gw k b L E) (hlen : b.T.length < 60) (hb1 : BookIs w1 g (b.write p x)) (hf1 : BkFrame w w1 g)
    (hd2 : DiskAt w2 bm gw (if okW p x then L ++ [⟨k, p.toNat, x.toNat, false⟩] else L) E) (hf2 : WFrame w1 w2 bm) :
    TB W w2 g bm gw k (b.write p x) (if okW p x then L ++ [⟨k, p.toNat, x.toNat, false⟩] else L) E ∧ (b.write p x).T.length ≤ b.T.length + 1 ∧ (if okW p x then L ++ [⟨k, p.toNat, x.toNat, false⟩] else L).length ≤ L.length + 1 := by
  have hbel := (h.below.trans (hf1.below _ h.lo.1)).trans (hf2.below _ h.lo.2)
  by_cases hok : okW p x
  · rw [if_pos hok] at hd2 ⊢
    have hE : b.writeE p x = 0 := by unfold Bk.writeE; rw [if_pos hok, if_neg (by omega)]
    have hw : b.write p x = b.put p.toNat x.toNat := by unfold Bk.write; rw [if_pos hE]
    obtain ⟨a1, a2, a3, a4⟩ := hok
    refine ⟨⟨hb1.waled hf2, ⟨h.ok.1.write p x, h.ok.2.write p x⟩, hd2, ?_, ?_, ?_, h.ended, h.lo, hbel⟩, ?_, by simp⟩
    · rw [hw, vals_write]
      exact h.same
    · rw [hw, ofTurn_write, ← h.grp]
      rfl
    · intro r hr
      rcases List.mem_append.1 hr with hr | hr
      · exact h.small r hr
      · rw [List.mem_singleton.1 hr]
        exact ⟨by simp only; omega, Nat.le_refl _⟩
    · rw [hw]
      simp [Bk.put]
  · rw [if_neg hok] at hd2 ⊢
    have hw : b.write p x = b := write_no (by unfold Bk.writeE; rw [if_neg hok]; decide)
    rw [hw] at hb1 ⊢
    exact ⟨⟨hb1.waled hf2, h.ok, hd2, h.same, h.grp, h.small, h.ended, h.lo, hbel⟩, by omega, by omega⟩

/-- a group was done in both -/
theorem TB.closed {W w w1 w2 : World} {g bm gw k c : Nat} {b : Bk} {L : List Rec} {E : List (Nat × Nat)} (h : TB W w g bm gw k b L E) (hlen : b.T.length < 60) (hb1 : BookIs w1 g b.done) (hf1 : BkFrame w w1 g)
    (hd2 : DiskAt w2 bm gw (L ++ [⟨k, 0, 0, true⟩]) (E ++ [(k, c)])) (hf2 : WFrame w1 w2 bm) :
    TB W w2 g bm gw (k + 1) b.done (L ++ [⟨k, 0, 0, true⟩]) (E ++ [(k, c)]) ∧ b.done.T.length = b.T.length + 1 ∧ b.done.G = [] := by
  have hbel := (h.below.trans (hf1.below _ h.lo.1)).trans (hf2.below _ h.lo.2)
  have hdn : b.done = b.close := by unfold Bk.done; rw [if_neg (by omega)]
  refine ⟨⟨hb1.waled hf2, ⟨h.ok.1.done, h.ok.2.done⟩, hd2, ?_, ?_, ?_, ?_, h.lo, hbel⟩, by rw [hdn]; simp [Bk.close], by rw [hdn]; rfl⟩
  · rw [hdn, vals_end, putsTo_group, ← h.same, ← h.grp]
    rfl
  · rw [hdn]
    show [] = _
    rw [ofTurn_new]
    intro r hr
    rcases List.mem_append.1 hr with hr | hr
    · have := (h.small r hr).2; omega
    · rw [List.mem_singleton.1 hr]
      exact Nat.lt_succ_self _
  · intro r hr
    rcases List.mem_append.1 hr with hr | hr
    · have := h.small r hr; omega
    · rw [List.mem_singleton.1 hr]
      exact ⟨Nat.zero_lt_succ 7, by simp only; omega⟩
  · intro e he
    rcases List.mem_append.1 he with he | he
    · have := h.ended e he; omega
    · rw [List.mem_singleton.1 he]
      exact Nat.lt_succ_self _

set_option maxRecDepth 100000 in
set_option maxHeartbeats 8000000 in
theorem topbook_walk (v0 : Value) (W : World) {rs : List (List Int)} (hv1 : RowsArg W v0 rs) (hE : Env W.heap.size W) :
    Calls Tryd.prog 6 #[v0] W fun e w' => e = .returned (.bool true) ∧ Below W.heap.size W w' := by
  have hv0 := hv1.1
  clear hv1
  have HV := Lib.hid hv0
  have HE := Lib.hid hE
  clear hE
  obtain ⟨la, nr, lcap, rfl, hnr, hnc, hcm⟩ : ∃ la n lcap, v0 = .slice la n lcap ∧ n = rs.length ∧ n ≤ lcap ∧ lcap ≤ maxLen := by
    obtain ⟨a, cap, h, h1, h2, -⟩ := hv0
    exact ⟨a, rs.length, cap, h, rfl, h1, h2⟩
  have hnm : nr ≤ 9223372036854775807 := by unfold maxLen at hcm; omega
  have HN := Lib.hid hnr
  clear hv0 hnr hnc hcm
  go_enter Tryd.func6, Tryd.ntmps6
  go_wp2_with fail
  refine (new_walk _).mono ?_
  rintro _ w1 ⟨rfl, ⟨hbk1, -⟩, hb1⟩
  obtain ⟨g1, hg1⟩ : ∃ g, g = W.heap.size := ⟨_, rfl⟩
  rw [← hg1] at hbk1 ⊢
  have hW1 : W.heap.size ≤ g1 := Nat.le_of_eq hg1.symm
  have HBK1 := Lib.hid hbk1
  have HB1 := Lib.hid hb1
  clear hbk1 hb1 hg1
  go_wp2_with fail
  refine (wnew_walk w1).mono ?_
  rintro _ w2 ⟨rfl, hd2, hb2⟩
  obtain ⟨bm, hbm⟩ : ∃ b, b = w1.heap.size := ⟨_, rfl⟩
  obtain ⟨gw, hgw⟩ : ∃ b, b = w1.heap.size + 1 := ⟨_, rfl⟩
  rw [← hgw] at hd2 ⊢
  rw [← hbm] at hd2
  have hWm : W.heap.size ≤ bm := by rw [hbm]; exact HB1.out.size
  have HD2 := Lib.hid hd2
  have HBK2 := Lib.hid (HBK1.out.later hb2)
  have HB2 := Lib.hid (HB1.out.trans (hb2.mono HB1.out.size))
  clear hd2 hb2 hbm hgw
  go_wp2_with fail
  refine (bwrite_walk w2 W.heap.size g1 Bk.new 2 3 HBK2.out hW1 (HE.out.on HB2.out).pow Bk.new_ok).mono ?_
  rintro _ w3 ⟨rfl, hbk3, hf3⟩
  rw [show errV ((Bk.new.writeE 2 3 : Nat) : Int) = .nilIface by rw [show Bk.new.writeE 2 3 = 0 by decide +kernel]; rfl]
  have HBK3 := Lib.hid hbk3
  have HD3 := Lib.hid (HD2.out.booked HBK2.out hf3)
  have HB3 := Lib.hid (HB2.out.trans (hf3.below _ hW1))
  clear hbk3 hf3
  go_wp2_with fail
  refine (waits_walk w3 g1 _ HBK3.out).mono ?_
  rintro _ w ⟨rfl, rfl⟩
  rw [show ((Bk.new.write 2 3).G.length : Nat) = 1 from by decide +kernel]
  go_wp2_with fail
  refine (new_walk _).mono ?_
  rintro _ w4 ⟨rfl, ⟨hbk4, -⟩, hb4⟩
  obtain ⟨g, hg⟩ : ∃ g, g = w3.heap.size := ⟨_, rfl⟩
  rw [← hg] at hbk4 ⊢
  have hWg : W.heap.size ≤ g := by rw [hg]; exact HB3.out.size
  have HTB4 : Hid (TB W w4 g bm gw 0 Bk.new [] []) := Lib.hid ⟨hbk4, ⟨Bk.new_ok, Bk.told_new⟩, HD3.out.later hb4, rfl, rfl, (fun r hr => nomatch hr), (fun e he => nomatch he), ⟨hWg, hWm⟩, HB3.out.trans (hb4.mono HB3.out.size)⟩
  clear hbk4 hb4 hg
  go_wp2_with fail
  go_loopw [5] (fun ix wr => ∃ (k : Nat) (b : Bk) (L : List Rec) (E : List (Nat × Nat)), k ≤ 8 ∧ k ≤ nr ∧ ix = .int .i64 k ∧ TB W wr g bm gw k b L E ∧ b.G = [] ∧ b.T.length ≤ 5 * k ∧ L.length ≤ 5 * k) (fun ix _ => 8 - (intOf ix).toNat)
  case atStart => exact ⟨0, Bk.new, [], [], by omega, Nat.zero_le _, rfl, HTB4.out, rfl, Nat.le_refl _, Nat.le_refl _⟩
  case round =>
    obtain ⟨k, b, L, E, hk8, hkn, rfl, htb, hG, hT5, hL5⟩ := hrel
    have HTB := Lib.hid htb
    have HGN := Lib.hid hG
    have HT5 := Lib.hid hT5
    have HL5 := Lib.hid hL5
    clear htb hG hT5 hL5
    by_cases hend : k < nr ∧ k < 8
    · obtain ⟨he1, he2⟩ := hend
      have p1 : decide (k < nr) = true := decide_eq_true he1
      have p2 : decide ((k : Int) < 8) = true := decide_eq_true (by omega)
      obtain ⟨r, hr⟩ : ∃ r, rs[k]? = some r := ⟨_, List.getElem?_eq_getElem (by have := HN.out; omega)⟩
      obtain ⟨b0, o0, rv, rfl, hb0, hc0, hrv⟩ := HV.out.liesT hr
      obtain ⟨ra, ln, rcap, rfl, hln, hlm⟩ := hrv.slT
      have hc0w := (HTB.out.below.cell (p := ⟨b0, o0 + k, none⟩) hb0).trans hc0
      have HRV := Lib.hid hrv
      have HLN := Lib.hid hln
      clear hr hc0 hrv hln hb0
      go_wp2_with fail
      clear hc0w
      go_loopw [7] (fun ix wr => ∃ (j : Nat) (b : Bk) (L : List Rec), j ≤ 4 ∧ ix = .int .i64 ((2 * j : Nat) : Int) ∧ TB W wr g bm gw k b L E ∧ b.T.length ≤ 5 * k + j ∧ L.length ≤ 5 * k + j) (fun ix _ => 8 - (intOf ix).toNat)
      case atStart => exact ⟨0, b, L, by omega, rfl, HTB.out, HT5.out, HL5.out⟩
      case round =>
        obtain ⟨j, b, L, hj4, rfl, htb, hT, hL⟩ := hrel
        have HTBJ := Lib.hid htb
        clear htb
        obtain ⟨i, hi⟩ : ∃ i, i = 2 * j := ⟨_, rfl⟩
        rw [← hi]
        have HI := Lib.hid hi
        have hi8 : i ≤ 8 := by omega
        clear hi
        have hTl : b.T.length < 60 := by omega
        have hLl : L.length < 60 := by omega
        have hk19 : k ≤ 19 := by omega
        by_cases hin : i + 1 < ln ∧ i < 8
        · obtain ⟨hi1, hi2⟩ := hin
          have q3 : decide ((i : Int) + 1 < (ln : Int)) = true := decide_eq_true (by omega)
          have q4 : decide ((i : Int) < 8) = true := decide_eq_true (by omega)
          obtain ⟨p, hp⟩ : ∃ p, r[i]? = some p := ⟨_, List.getElem?_eq_getElem (by have := HLN.out; omega)⟩
          obtain ⟨x, hx⟩ : ∃ x, r[i + 1]? = some x := ⟨_, List.getElem?_eq_getElem (by have := HLN.out; omega)⟩
          obtain ⟨rb, ro, rfl, hrb, hcp⟩ := HRV.out.liesT hp
          obtain ⟨rb', ro', e', -, hcx⟩ := HRV.out.liesT hx
          cases e'
          have HS : Hid (∀ w' : World, Below W.heap.size W w' → w'.cell? ⟨rb, ro + i, none⟩ = some (.int .i64 p) ∧ w'.cell? ⟨rb, ro + (i + 1), none⟩ = some (.int .i64 x)) :=
            Lib.hid (fun w' hb => ⟨(hb.cell (p := ⟨rb, ro + i, none⟩) hrb).trans hcp, (hb.cell (p := ⟨rb, ro + (i + 1), none⟩) hrb).trans hcx⟩)
          have s0 : IntKind.i64.wrap ((i : Int) + 1) = (i : Int) + 1 := IntWalk.i64_in _ (by omega)
          have s1 : ((i : Int) + 1).toNat = i + 1 := by omega
          have s2 : (0 : Int) ≤ (i : Int) + 1 := by omega
          have s3 : (i : Int) + 1 < (ln : Int) := by omega
          have s4 : (i : Int) < (ln : Int) := by omega
          have s5 : (0 : Int) ≤ (i : Int) := by omega
          have hcp1 := (HS.out _ HTBJ.out.below).1
          have hcx1 := (HS.out _ HTBJ.out.below).2
          clear hcp hcx hp hx
          go_wp2_with fail
          go_still_tail 10, (by kernel_rfl)
          change wpList _ _ _ _ _ wr.drew
          go_wp2_with fail
          refine (bwrite_walk _ W.heap.size g b p x (HTBJ.out.later (Below.refl wr.heap.size wr).drew).book hWg (HE.out.on (HTBJ.out.later (Below.refl wr.heap.size wr).drew).below).pow HTBJ.out.ok.1).mono ?_
          rintro _ w7 ⟨rfl, hbk7, hf7⟩
          have HT0 := Lib.hid (HTBJ.out.later (Below.refl wr.heap.size wr).drew)
          have HBK7 := Lib.hid hbk7
          have HF7 := Lib.hid hf7
          have HB7 := Lib.hid (HT0.out.below.trans (hf7.below _ hWg))
          have HD7 := Lib.hid (HT0.out.disk.booked HT0.out.book hf7)
          have hcp7 := (HS.out _ HB7.out).1
          have hcx7 := (HS.out _ HB7.out).2
          have hec : (okW p x ∧ errV (b.writeE p x : Nat) = .nilIface) ∨ (¬ okW p x ∧ errV (b.writeE p x : Nat) = .iface 68 (.int .i64 1)) := by
            by_cases hok : okW p x
            · left
              refine ⟨hok, ?_⟩
              have hE : b.writeE p x = 0 := by unfold Bk.writeE; rw [if_pos hok, if_neg (by omega)]
              rw [hE]
              rfl
            · right
              refine ⟨hok, ?_⟩
              have hE : b.writeE p x = 1 := by unfold Bk.writeE; rw [if_neg hok]
              rw [hE]
              rfl
          clear hbk7 hf7 hcp1 hcx1
          rcases hec with ⟨hok, hev⟩ | ⟨hok, hev⟩
          all_goals
            rw [hev]
            have HOK := Lib.hid hok
            clear hok hev
            go_wp2_with fail
            go_still_tail 12, (by kernel_rfl)
            change wpList _ _ _ _ _ w7.drew
            go_wp2_with fail
            refine (wwrite_walk _ bm gw k p x L E (HD7.out.later (Below.refl w7.heap.size w7).drew) hk19 (TB.fresh HTBJ.out.ended) hLl).mono ?_
            rintro _ w8 ⟨rfl, hd8, hf8⟩
            have hbmw : bm ≤ w7.heap.size := by have := HD7.out.lt; have := HD7.out.glt; omega
            have HT8 := Lib.hid (TB.wrote HT0.out hTl HBK7.out HF7.out hd8 ((WFrame.of_below bm (Below.refl w7.heap.size w7).drew hbmw).trans hf8))
            first | rw [if_pos HOK.out] | rw [if_neg HOK.out]
            clear hd8 hf8 hcp7 hcx7
            go_wp2_with fail
            go_quiet (fail)
            go_wp2_with fail
            have hij := HI.out
            go_roundw
            case rel => exact ⟨j + 1, _, _, by omega, by first | (congr 1; omega) | (congr 1; rw [IntWalk.i64_in _ (by omega)]; omega), HT8.out.1.later (below_drewN' w8 _), by have := HT8.out.2.1; omega, by have := HT8.out.2.2; omega⟩
            case measure => simp [intOf]; omega
        · have hcase : (decide ((i : Int) + 1 < (ln : Int)) = false ∧ decide (i + 1 < ln) = false) ∨ (decide ((i : Int) + 1 < (ln : Int)) = true ∧ decide ((i : Int) < 8) = false) := by
            by_cases h1 : i + 1 < ln
            · exact .inr ⟨decide_eq_true (by omega), decide_eq_false (by omega)⟩
            · exact .inl ⟨decide_eq_false (by omega), decide_eq_false h1⟩
          have s0 : IntKind.i64.wrap ((i : Int) + 1) = (i : Int) + 1 := IntWalk.i64_in _ (by omega)
          clear hin
          rcases hcase with ⟨q3, q3'⟩ | ⟨q3, q4⟩
          all_goals
            go_wp2_with fail
            refine (vals_walk wr g b HTBJ.out.book).mono ?_
            rintro _ w5 ⟨⟨v3, rfl, hv3⟩, hb5⟩
            have HV3 := Lib.hid hv3
            have HT5 := Lib.hid (HTBJ.out.later hb5)
            clear hv3 hb5
            go_wp2_with fail
            refine (wvalues_walk w5 bm gw L E HT5.out.disk (fun r hr => (HT5.out.small r hr).1) (by omega)).mono ?_
            rintro _ w6 ⟨⟨v4, rfl, hv4⟩, hb6⟩
            have HV4 := Lib.hid hv4
            have HV36 := Lib.hid (HV3.out.below hb6)
            have HT6 := Lib.hid (HT5.out.later hb6)
            clear hv4 hb6
            go_wp2_with fail
            refine (ints_eq v3 v4 _ _ w6 HV36.out HV4.out (by rw [HT6.out.same])).mono ?_
            rintro _ w7 ⟨rfl, hb7⟩
            have HT7 := Lib.hid (HT6.out.later hb7)
            clear hb7
            go_wp2_with fail
            refine (bdo_walk w7 W.heap.size g b HT7.out.book hWg (HE.out.on HT7.out.below).pow HT7.out.ok.1).mono ?_
            rintro _ w8 ⟨rfl, hbk8, hf8⟩
            have hdE : b.doneE = 0 := by unfold Bk.doneE; rw [if_neg (by omega)]
            rw [hdE, show errV ((0 : Nat) : Int) = .nilIface from rfl]
            obtain ⟨nd, hnd⟩ : ∃ n : Int, n = (b.doneN : Nat) := ⟨_, rfl⟩
            rw [← hnd]
            have HBK8 := Lib.hid hbk8
            have HF8 := Lib.hid hf8
            have HD8 := Lib.hid (HT7.out.disk.booked HT7.out.book hf8)
            clear hbk8 hf8 hdE hnd
            go_wp2_with fail
            refine (wend_walk w8 bm gw k L E HD8.out hk19 (TB.fresh HTBJ.out.ended) hLl).mono ?_
            rintro _ w9 ⟨rfl, ⟨c, hd9⟩, hf9⟩
            have HT9 := Lib.hid (TB.closed HT7.out hTl HBK8.out HF8.out hd9 hf9)
            clear hd9 hf9
            go_wp2_with fail
            refine (vals_walk w9 g b.done HT9.out.1.book).mono ?_
            rintro _ w10 ⟨⟨v5, rfl, hv5⟩, hb10⟩
            have HV5 := Lib.hid hv5
            have HT10 := Lib.hid (HT9.out.1.later hb10)
            clear hv5 hb10
            go_wp2_with fail
            refine (wvalues_walk w10 bm gw _ _ HT10.out.disk (fun r hr => (HT10.out.small r hr).1) (by simp; omega)).mono ?_
            rintro _ w11 ⟨⟨v6, rfl, hv6⟩, hb11⟩
            have HV6 := Lib.hid hv6
            have HV511 := Lib.hid (HV5.out.below hb11)
            have HT11 := Lib.hid (HT10.out.later hb11)
            clear hv6 hb11
            go_wp2_with fail
            refine (ints_eq v5 v6 _ _ w11 HV511.out HV6.out (by rw [HT11.out.same])).mono ?_
            rintro _ w12 ⟨rfl, hb12⟩
            have HT12 := Lib.hid (HT11.out.later hb12)
            clear hb12
            go_wp2_with fail
            go_roundw
            case rel => exact ⟨k + 1, b.done, _, _, by omega, by omega, by go_num, HT12.out, HT9.out.2.2, by have := HT9.out.2.1; omega, by simp; omega⟩
            case measure => simp [intOf]; omega
    · have hcase : decide (k < nr) = false ∨ (decide (k < nr) = true ∧ decide ((k : Int) < 8) = false) := by
        by_cases h1 : k < nr
        · exact .inr ⟨decide_eq_true h1, decide_eq_false (by omega)⟩
        · exact .inl (decide_eq_false h1)
      have hLl : L.length ≤ 60 := by have := HL5.out; omega
      clear hend
      rcases hcase with p1 | ⟨p1, p2⟩
      all_goals
        go_wp2_with fail
        refine (text_walk wr g b HTB.out.book).mono ?_
        rintro _ w3 ⟨rfl, hbk3, hf3⟩
        have HD3 := Lib.hid (HTB.out.disk.booked HTB.out.book hf3)
        have HB3 := Lib.hid (HTB.out.below.trans (hf3.below _ hWg))
        have hsm : b.text.length ≤ 1000000 := by have := Bk.text_small HTB.out.ok.1; omega
        have HOW := Lib.hid (open_walk b.text w3 W.heap.size HB3.out.size (HE.out.on HB3.out) hsm)
        obtain ⟨tx, htx⟩ := named b.text
        rw [← htx] at HOW ⊢
        clear hbk3 hf3 hsm htx
        go_wp2_with fail
        refine HOW.out.mono ?_
        rintro e w5 ⟨⟨pt, rfl, hres⟩, hb5⟩
        obtain ⟨o1, o2, o3⟩ := open_told HTB.out.ok
        rw [o1, whole_same HGN.out] at hres
        obtain ⟨go, rfl, hgo, hbko⟩ := hres
        rw [o2, o3, show errV ((0 : Nat) : Int) = .nilIface from rfl]
        have HBO := Lib.hid hbko
        have HD5 := Lib.hid (HD3.out.later hb5)
        have HB5 := Lib.hid (HB3.out.trans (hb5.mono HB3.out.size))
        obtain ⟨kn, hkn⟩ : ∃ kn : Int, kn = (b.T.length : Nat) := ⟨_, rfl⟩
        rw [← hkn]
        clear hb5 hbko hgo o1 o2 o3 HOW hkn
        go_wp2_with fail
        refine (vals_walk w5 go b HBO.out).mono ?_
        rintro _ w6 ⟨⟨v5, rfl, hv5⟩, hb6⟩
        have HV5 := Lib.hid hv5
        have HD6 := Lib.hid (HD5.out.later hb6)
        have HB6 := Lib.hid (HB5.out.trans (hb6.mono HB5.out.size))
        clear hv5 hb6
        go_wp2_with fail
        refine (wvalues_walk w6 bm gw L E HD6.out (fun r hr => (HTB.out.small r hr).1) hLl).mono ?_
        rintro _ w7 ⟨⟨v6, rfl, hv6⟩, hb7⟩
        have HV6 := Lib.hid hv6
        have HV57 := Lib.hid (HV5.out.below hb7)
        have HB7 := Lib.hid (HB6.out.trans (hb7.mono HB6.out.size))
        clear hv6 hb7
        go_wp2_with fail
        refine (ints_eq v5 v6 _ _ w7 HV57.out HV6.out (by rw [HTB.out.same])).mono ?_
        rintro _ w8 ⟨rfl, hb8⟩
        have HB8 := Lib.hid (HB7.out.trans (hb8.mono HB7.out.size))
        clear hb8
        go_wp2_with fail
        go_ret
        exact ⟨rfl, HB8.out⟩

end Go.Proofs.YtfofepmkjjeldaaDoor
