/- 'told': a book in which something was written and done. -/
import Derived.Test.YtfofepmkjjeldaaGreatDoorBook5
import Derived.Test.YtfofepmkjjeldaaGreatDoorReplay
import Derived.Test.YtfofepmkjjeldaaGreatDoorReadRows
import Derived.StillTailTactics
namespace Go.Proofs.YtfofepmkjjeldaaGreatDoor
open Go.RowKit

/-- a step of the law -/
def stepB (b : Bk) (r : List Int) : Bk := if r.length = 2 then b.write (r.getD 0 0) (r.getD 1 0) else if r.length = 1 then b.done else b
def toldB (rs : List (List Int)) : Bk := (rs.take 70).foldl stepB Bk.new

theorem stepB_good {b : Bk} (h : b.ok ∧ b.told) (r : List Int) : (stepB b r).ok ∧ (stepB b r).told := by
  unfold stepB
  split
  · exact ⟨h.1.write _ _, h.2.write _ _⟩
  · split
    · exact ⟨h.1.done, h.2.done⟩
    · exact h
theorem foldB_good (rs : List (List Int)) : ∀ {b : Bk}, b.ok ∧ b.told → (rs.foldl stepB b).ok ∧ (rs.foldl stepB b).told := by
  induction rs with
  | nil => exact fun h => h
  | cons r rs ih => exact fun h => ih (stepB_good h r)
theorem toldB_good (rs : List (List Int)) : (toldB rs).ok ∧ (toldB rs).told := foldB_good _ ⟨Bk.new_ok, Bk.told_new⟩

theorem HasRows.liesT {w : World} {a : Option Addr} {n cap : Nat} {rs : List (List Int)} (h : HasRows w (.slice a n cap) rs) {j : Nat} {r : List Int} (hr : rs[j]? = some r) :
    ∃ b off rv, a = some ⟨b, off, none⟩ ∧ b < w.heap.size ∧ w.cell? ⟨b, off + j, none⟩ = some rv ∧ HasInts w rv r := by
  obtain ⟨a', cap', h1, -, -, h4⟩ := h
  cases h1
  obtain ⟨b, off, h5, h50, h6⟩ := h4 (Nat.lt_of_le_of_lt (Nat.zero_le _) (List.getElem?_eq_some_iff.1 hr).1)
  obtain ⟨rv, h7, h8⟩ := h6 j r hr
  exact ⟨b, off, rv, h5, h50, h7, h8⟩
theorem HasInts.liesT {w : World} {a : Option Addr} {n cap : Nat} {L : List Int} (h : HasInts w (.slice a n cap) L) {j : Nat} {x : Int} (hx : L[j]? = some x) :
    ∃ b off, a = some ⟨b, off, none⟩ ∧ b < w.heap.size ∧ w.cell? ⟨b, off + j, none⟩ = some (.int .i64 x) := by
  obtain ⟨a', cap', h1, -, -, h4⟩ := h
  cases h1
  obtain ⟨b, off, h5, h50, h6⟩ := h4 (Nat.lt_of_le_of_lt (Nat.zero_le _) (List.getElem?_eq_some_iff.1 hx).1)
  exact ⟨b, off, h5, h50, h6 j x hx⟩
theorem HasInts.slT {w : World} {v : Value} {L : List Int} (h : HasInts w v L) : ∃ a n c, v = .slice a n c ∧ n = L.length ∧ n ≤ 9223372036854775807 := by
  obtain ⟨a, cap, h1, h2, h3, -⟩ := h
  exact ⟨a, _, cap, h1, rfl, by unfold maxLen at h3; omega⟩

set_option maxRecDepth 100000 in
set_option maxHeartbeats 4000000 in
theorem told_walk (v0 : Value) (W : World) {rs : List (List Int)} (hv0 : HasRows W v0 rs) (hP : Pow W.heap.size W) :
    Calls Tryz.prog 11 #[v0] W fun e w' => ∃ g, e = .returned (.pointer (some ⟨g, 0, none⟩)) ∧ BookIs w' g (toldB rs) ∧ W.heap.size ≤ g ∧ Below W.heap.size W w' := by
  have HV := Lib.hid hv0
  have HP := Lib.hid hP
  clear hv0 hP
  obtain ⟨la, n, lcap, rfl, hn, hnc, hcm⟩ : ∃ la n lcap, v0 = .slice la n lcap ∧ n = rs.length ∧ n ≤ lcap ∧ lcap ≤ maxLen := by
    obtain ⟨a, cap, h, h1, h2, -⟩ := HV.out
    exact ⟨a, rs.length, cap, h, rfl, h1, h2⟩
  have hnm : n ≤ 9223372036854775807 := by unfold maxLen at hcm; omega
  have HN := Lib.hid hn
  clear hn hnc hcm
  go_enter Tryz.func11, Tryz.ntmps11
  go_wp2_with fail
  refine (new_walk _).mono ?_
  rintro _ w1 ⟨rfl, ⟨hbk1, -⟩, hb1⟩
  obtain ⟨g, hg⟩ : ∃ g, g = W.heap.size := ⟨_, rfl⟩
  rw [← hg] at hbk1 ⊢
  have HG := Lib.hid hg
  have HBK1 := Lib.hid hbk1
  have HB1 := Lib.hid hb1
  clear hbk1 hb1 hg
  go_wp2_with fail
  go_loopw [4] (fun ix wr => ∃ k : Nat, k ≤ 70 ∧ k ≤ n ∧ ix = .int .i64 k ∧ BookIs wr g ((rs.take k).foldl stepB Bk.new) ∧ Below W.heap.size W wr) (fun ix _ => 70 - (intOf ix).toNat)
  case atStart => exact ⟨0, by omega, Nat.zero_le _, rfl, HBK1.out, HB1.out⟩
  case round =>
    obtain ⟨k, hk70, hkn, rfl, hbk, hbl⟩ := hrel
    obtain ⟨b, hb⟩ : ∃ b, b = (rs.take k).foldl stepB Bk.new := ⟨_, rfl⟩
    rw [← hb] at hbk
    have HGD := Lib.hid (foldB_good (rs.take k) ⟨Bk.new_ok, Bk.told_new⟩)
    rw [← hb] at HGD
    have HB := Lib.hid hb
    have HBK := Lib.hid hbk
    have HBL := Lib.hid hbl
    clear hb hbk hbl
    by_cases hend : k < n ∧ k < 70
    · have q1 : decide (k < n) = true := decide_eq_true hend.1
      have q2 : decide ((k : Int) < 70) = true := decide_eq_true (by omega)
      obtain ⟨r, hr⟩ : ∃ r, rs[k]? = some r := ⟨_, List.getElem?_eq_getElem (by have := HN.out; omega)⟩
      obtain ⟨b0, o0, rv, rfl, hb0, hc0, hrv⟩ := HV.out.liesT hr
      obtain ⟨ra, ln, rcap, rfl, hln, hlm⟩ := hrv.slT
      have hc0w := (HBL.out.cell (p := ⟨b0, o0 + k, none⟩) hb0).trans hc0
      have hstep : (rs.take (k + 1)).foldl stepB Bk.new = stepB b r := by
        rw [List.take_succ_eq_append_getElem (List.getElem?_eq_some_iff.1 hr).1, (List.getElem?_eq_some_iff.1 hr).2, List.foldl_append, ← HB.out]
        rfl
      have HSTEP := Lib.hid hstep
      have HRV := Lib.hid hrv
      have HLN := Lib.hid hln
      have hWg : W.heap.size ≤ g := Nat.le_of_eq HG.out.symm
      have HB0 := Lib.hid hb0
      have HC0 := Lib.hid hc0
      clear hr hc0 hrv hln hb0 hstep
      by_cases h2 : ln = 2
      · subst h2
        obtain ⟨p, x, rfl⟩ : ∃ p x, r = [p, x] := by
          have := HLN.out
          match r, this with
          | [p, x], _ => exact ⟨p, x, rfl⟩
        obtain ⟨rb, ro, rfl, hrb, hcp⟩ := HRV.out.liesT (j := 0) (x := p) rfl
        obtain ⟨rb', ro', e', -, hcx⟩ := HRV.out.liesT (j := 1) (x := x) rfl
        cases e'
        rw [Nat.add_zero] at hcp
        have hcpw := (HBL.out.cell (p := ⟨rb, ro, none⟩) hrb).trans hcp
        have hcxw := (HBL.out.cell (p := ⟨rb, ro + 1, none⟩) hrb).trans hcx
        clear hcp hcx
        go_wp2_with fail
        go_still_tail 13, (by kernel_rfl)
        change wpList _ _ _ _ _ wr.drew
        go_wp2_with fail
        refine (bwrite_walk _ W.heap.size g b p x (HBK.out.later (Below.refl wr.heap.size wr).drew) hWg (HP.out.on HBL.out.drew) HGD.out.1).mono ?_
        rintro _ w7 ⟨rfl, hbk7, hf7⟩
        have HBK7 := Lib.hid hbk7
        have HBL7 := Lib.hid (HBL.out.drew.trans (hf7.below _ hWg))
        clear hbk7 hf7
        have hc7 := (HBL7.out.cell (p := ⟨b0, o0 + k, none⟩) HB0.out).trans HC0.out
        have HFIN : Hid (BookIs w7 g ((rs.take (k + 1)).foldl stepB Bk.new)) := Lib.hid (by rw [HSTEP.out]; exact HBK7.out)
        clear hc0w hcpw hcxw
        go_wp2_with fail
        go_roundw
        case rel => exact ⟨k + 1, by omega, by omega, by go_num, HFIN.out, HBL7.out⟩
        case measure => simp [intOf]; omega
      · have q3 : ((ln : Int) == 2) = false := beq_eq_false_iff_ne.2 (by omega)
        by_cases h1 : ln = 1
        · subst h1
          have hsr : stepB b r = b.done := by unfold stepB; rw [← HLN.out, if_neg (by decide), if_pos rfl]
          have HSR := Lib.hid hsr
          clear hsr
          go_wp2_with fail
          refine (bdo_walk wr W.heap.size g b HBK.out hWg (HP.out.on HBL.out) HGD.out.1).mono ?_
          rintro _ w7 ⟨rfl, hbk7, hf7⟩
          have HBL7 := Lib.hid (HBL.out.trans (hf7.below _ hWg))
          have HFIN : Hid (BookIs w7 g ((rs.take (k + 1)).foldl stepB Bk.new)) := Lib.hid (by rw [HSTEP.out, HSR.out]; exact hbk7)
          clear hbk7 hf7
          go_wp2_with fail
          go_roundw
          case rel => exact ⟨k + 1, by omega, by omega, by go_num, HFIN.out, HBL7.out⟩
          case measure => simp [intOf]; omega
        · have q4 : ((ln : Int) == 1) = false := beq_eq_false_iff_ne.2 (by omega)
          have hsr : stepB b r = b := by unfold stepB; rw [← HLN.out, if_neg h2, if_neg h1]
          have HFIN : Hid (BookIs wr g ((rs.take (k + 1)).foldl stepB Bk.new)) := Lib.hid (by rw [HSTEP.out, hsr]; exact HBK.out)
          clear hsr
          go_wp2_with fail
          go_roundw
          case rel => exact ⟨k + 1, by omega, by omega, by go_num, HFIN.out, HBL.out⟩
          case measure => simp [intOf]; omega
    · have hfin : rs.take k = rs.take 70 := by
        by_cases hk : k = 70
        · rw [hk]
        · rw [List.take_of_length_le (by have := HN.out; omega), List.take_of_length_le (by have := HN.out; omega)]
      have HFIN : Hid (BookIs wr g (toldB rs)) := Lib.hid (by
        have h := HBK.out
        rw [HB.out, hfin] at h
        exact h)
      have HWG := Lib.hid (Nat.le_of_eq HG.out.symm)
      clear hfin
      by_cases hk1 : k < n
      · have q1 : decide (k < n) = true := decide_eq_true hk1
        have q2 : decide ((k : Int) < 70) = false := decide_eq_false (by omega)
        go_wp2_with fail
        go_ret
        exact ⟨g, rfl, HFIN.out, HWG.out, HBL.out⟩
      · have q1 : decide (k < n) = false := decide_eq_false hk1
        go_wp2_with fail
        go_ret
        exact ⟨g, rfl, HFIN.out, HWG.out, HBL.out⟩

end Go.Proofs.YtfofepmkjjeldaaGreatDoor
