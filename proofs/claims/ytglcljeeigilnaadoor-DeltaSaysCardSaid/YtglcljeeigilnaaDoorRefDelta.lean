/- The walk of the reference's Delta. -/
import Derived.Test.YtglcljeeigilnaaDoorPieceS
import Derived.Deep.DeepCutAuto
import Derived.Deep.CutBlock
namespace Go.Proofs.YtglcljeeigilnaaDoor
open Go.RowKit Delta

def pend (out : List Pc) (own : ByteArray) : List Pc := if own.size = 0 then out else out ++ [⟨0, 0, own⟩]
def Tail (out : List Pc) : Prop := ∀ init p, out = init ++ [p] → p.size ≠ 0
theorem pend_zero (out : List Pc) {own : ByteArray} (h : own.size = 0) : pend out own = out := by unfold pend; rw [if_pos h]
theorem pend_pos (out : List Pc) {own : ByteArray} (h : own.size ≠ 0) : pend out own = out ++ [⟨0, 0, own⟩] := by unfold pend; rw [if_neg h]
theorem pend_push {out : List Pc} {own c : ByteArray} (ht : Tail out) (hc : c.size ≠ 0) : push (pend out own) c = pend out (own ++ c) := by
  rw [pend_pos out (own := own ++ c) (by rw [ByteArray.size_append]; omega)]
  by_cases h : own.size = 0
  · rw [pend_zero out h]
    have he : own = ByteArray.empty := by
      apply ByteArray.ext
      apply Array.eq_empty_of_size_eq_zero
      exact h
    rw [he, ByteArray.empty_append]
    rcases snoc_cases out with rfl | ⟨a, x, rfl⟩
    · rfl
    · rw [push_new _ _ _ (ht a x rfl)]
      simp
  · rw [pend_pos out h, push_own _ _ _ rfl]

structure RefD (w wr : World) (o t : ByteArray) (z i : Nat) (out : List Pc) (own : ByteArray) (v : Value) : Prop where
  reach : Delta.Reach o t z (i, pend out own)
  tail : Tail out
  row : wr.ownsRow w.heap.size 54 3 v out.length (piecesV out)
  below : Below w.heap.size w wr
  osz : own.size ≤ i

theorem RefD.len {w wr : World} {o t : ByteArray} {z i : Nat} {out : List Pc} {own : ByteArray} {v : Value} (h : RefD w wr o t z i out own v) (hz : 1 ≤ z) (ht : t.size ≤ 2000) : i ≤ t.size ∧ out.length ≤ 2000 := by
  have h1 := (h.reach.back hz).le
  have h2 := (h.reach.back hz).len
  simp only at h1 h2
  have h3 : out.length ≤ (pend out own).length := by unfold pend; split <;> simp
  omega
theorem RefD.later {w wr wr' : World} {o t : ByteArray} {z i : Nat} {out : List Pc} {own : ByteArray} {v : Value} (h : RefD w wr o t z i out own v) (hb : Below wr.heap.size wr wr') : RefD w wr' o t z i out own v :=
  ⟨h.reach, h.tail, ownsRow_later h.row hb, h.below.trans (hb.mono h.below.size), h.osz⟩

theorem own_shapeR {w : World} {base : Nat} {e : TypeId} {size : Nat} {v : Value} {n : Nat} {xs : List Value} (h : w.ownsRow base e size v n xs) : ∃ va cap, v = .slice va n cap := own_shape h

set_option maxRecDepth 100000 in
set_option maxHeartbeats 8000000 in
theorem refdelta_walk (o t : ByteArray) (z : Nat) (w : World) (ho : o.size ≤ 2000) (ht : t.size ≤ 2000) (hz1 : 1 ≤ z) (hz64 : z ≤ 64) :
    Calls Tryd.prog 18 #[.string o, .string t, .int .i64 z] w fun e w' => ∃ v out, e = .returned v ∧ Delta.Reach o t z (t.size, out) ∧ w'.ownsRow w.heap.size 54 3 v out.length (piecesV out) ∧ Below w.heap.size w w' := by
  go_enter Tryd.func18, Tryd.ntmps18
  go_wp2_with fail
  go_loopw [7, 8, 9] (fun v ow ix wr => ∃ (i : Nat) (out : List Pc) (own : ByteArray), ix = .int .i64 i ∧ ow = .string own ∧ RefD w wr o t z i out own v) (fun _ _ ix _ => (t.size + 1) - (intOf ix).toNat)
  case atStart => exact ⟨0, [], ByteArray.empty, rfl, rfl, ⟨.start, fun init p h => by simp at h, World.ownsRow_nil _ _ _ _, Below.refl _ _, by simp⟩⟩
  case round =>
    obtain ⟨i, out, own, rfl, rfl, hr⟩ := hrel
    obtain ⟨hile, hol⟩ := hr.len hz1 ht
    have hosz := hr.osz
    have HR := Lib.hid hr
    clear hr
    obtain ⟨wm, rfl⟩ : ∃ wm : World, wm = wr := ⟨_, rfl⟩
    by_cases hlt : i < t.size
    · have q1 : decide (i < t.size) = true := decide_eq_true hlt
      by_cases hin : i + z ≤ t.size
      · have q2 : decide ((i : Int) + (z : Int) ≤ (t.size : Int)) = true := decide_eq_true (by omega)
        obtain ⟨sb, hsb⟩ : ∃ sb, sb = t.extract i (i + z) := ⟨_, rfl⟩
        have HSB := Lib.hid hsb
        go_wp2_with fail
        go_loopw [10, 11] (fun av kv wr => ∃ (j : Nat) (at_ : Int), kv = .int .i64 (j * z : Nat) ∧ av = .int .i64 at_ ∧ j * z ≤ o.size ∧ Below wm.heap.size wm wr ∧ ((at_ = -1 ∧ ∀ q, q < j → blk o z q ≠ sb) ∨ ∃ q : Nat, at_ = ((q * z : Nat) : Int) ∧ Hit o z sb (q * z))) (fun _ kv _ => (o.size + 1) - (intOf kv).toNat)
        case atStart => exact ⟨0, -1, by simp, rfl, by simp, Below.refl _ _, .inl ⟨rfl, fun q h => by omega⟩⟩
        case round =>
          obtain ⟨j, at_, rfl, rfl, hjo, hbl, hst⟩ := hrel
          have HBL := Lib.hid hbl
          obtain ⟨k, hk⟩ : ∃ k, k = j * z := ⟨_, rfl⟩
          rw [← hk] at hjo ⊢
          have HK := Lib.hid hk
          have HK1 := Lib.hid (show k + z = (j + 1) * z by rw [hk, Nat.succ_mul])
          clear hbl
          rcases hst with ⟨rfl, hno⟩ | ⟨q, hat, hhit⟩
          · have HNO := Lib.hid hno
            by_cases hko : k + z ≤ o.size
            · have q3 : decide ((k : Int) + (z : Int) ≤ (o.size : Int)) = true := decide_eq_true (by omega)
              have hkz : (j + 1) * z ≤ o.size := by rw [← HK1.out]; exact hko
              by_cases hme : o.extract k (k + z) = t.extract i (i + z)
              · have q4 : ((o.extract k (k + z)).toList == (t.extract i (i + z)).toList) = true := by rw [hme]; simp
                have HIT := Lib.hid (show Hit o z sb (j * z) from ⟨j, rfl, by rw [← hk]; exact hko, by unfold blk; rw [← hk, hme, hsb], hno⟩)
                clear hno hk hme hsb
                go_wp2_with fail
                go_quiet (fail)
                go_wp2_with fail
                go_roundw
                case rel => exact ⟨j + 1, (k : Int), by rw [← HK1.out]; go_num, rfl, hkz, below_drewN HBL.out _, .inr ⟨j, by rw [HK.out], HIT.out⟩⟩
                case measure => simp [intOf]; omega
              · have q4 := str_beq_false hme
                have HNE := Lib.hid (show ∀ q, q < j + 1 → blk o z q ≠ sb from fun q hq => by
                  rcases Nat.lt_or_ge q j with h | h
                  · exact hno q h
                  · obtain rfl : q = j := by omega
                    intro e
                    apply hme
                    rw [hk, ← hsb]
                    exact e)
                clear hno hk hme hsb
                go_wp2_with fail
                go_quiet (fail)
                go_wp2_with fail
                go_roundw
                case rel => exact ⟨j + 1, -1, by rw [← HK1.out]; go_num, rfl, hkz, below_drewN HBL.out _, .inl ⟨rfl, HNE.out⟩⟩
                case measure => simp [intOf]; omega
            · have q3 : decide ((k : Int) + (z : Int) ≤ (o.size : Int)) = false := decide_eq_false (by omega)
              have HMISS := Lib.hid (show i + z ≤ t.size → Miss o z (t.extract i (i + z)) from fun _ q hq hb => by
                rcases Nat.lt_or_ge q j with h | h
                · exact HNO.out q h (by rw [hb, HSB.out])
                · have := Nat.mul_le_mul_right z h
                  rw [← HK.out] at this
                  omega)
              have HBZ := HBL
              clear hno hk hsb
              have HOWN := Lib.hid (HMISS.out)
              have hcz : (t.extract i (i + 1)).size = 1 := by rw [ext_size _ _ _ (by omega)]; omega
              have HNEW := Lib.hid (show ∀ wx, Below wm.heap.size wm wx → RefD w wx o t z (i + 1) out (own ++ t.extract i (i + 1)) _ from fun wx hb => by
                have h := HR.out.later hb
                refine ⟨?_, h.tail, h.row, h.below, by rw [ByteArray.size_append, hcz]; omega⟩
                have h1 := Delta.Reach.step h.reach (.own hlt HOWN.out)
                rw [pend_push h.tail (by rw [hcz]; omega)] at h1
                exact h1)
              clear hcz
              go_wp2_with fail
              go_roundw
              case rel => exact ⟨i + 1, out, own ++ t.extract i (i + 1), by go_num, rfl, HNEW.out _ HBZ.out⟩
              case measure => simp [intOf]; omega
          · have HQQ := Lib.hid hhit
            obtain ⟨n, hn⟩ : ∃ n, n = q * z := ⟨_, rfl⟩
            rw [← hn] at hat HQQ
            have HAT := Lib.hid hat
            rw [hat]
            have q5 : decide ((n : Int) < 0) = false := decide_eq_false (by omega)
            have hnle : n ≤ 2000 := by obtain ⟨j', e1, e2, -⟩ := HQQ.out; omega
            have HH := Lib.hid (show Hit o z (t.extract i (i + z)) n by rw [← HSB.out]; exact HQQ.out)
            have HRW := Lib.hid (ownsRow_later HR.out.row HBL.out)
            have HBW := Lib.hid (HR.out.below.trans (HBL.out.mono HR.out.below.size))
            have s1 : IntKind.i64.wrap ((i : Int) + (z : Int) - 1) = (i : Int) + (z : Int) - 1 := IntWalk.i64_in _ (by omega)
            clear hhit hn hat hsb
            by_cases hown : own.size = 0
            · have he : own = ByteArray.empty := by
                apply ByteArray.ext
                apply Array.eq_empty_of_size_eq_zero
                exact hown
              subst he
              have HN1 := Lib.hid (show out.length + 1 ≤ maxLen by unfold maxLen; omega)
              have HN2 := Lib.hid (show (out.length + 1) * 32 ≤ 140737488355328 by omega)
              go_wp2_with (at_builtin; go_must (refine wpList_pushN (us := [.int .i64 (n : Nat), .int .i64 (z : Nat), .string ByteArray.empty]) 3 _ 32 HRW.out Tryd.underlying43 infoPc rfl (by omega) rfl rfl (by simp [Value.oneCell']) rfl HN1.out HN2.out HBW.out.size ?_; intro v' w5 hown1 hbel1 _; have HO1 := Lib.hid hown1; have HB1 := Lib.hid (HBW.out.trans hbel1); clear hown1 hbel1))
              go_roundw
              case rel =>
                refine ⟨i + z, out ++ [⟨n, z, ByteArray.empty⟩], ByteArray.empty, by go_num, rfl, ⟨?_, ?_, ?_, HB1.out, by simp⟩⟩
                · rw [pend_zero _ (by rfl)]
                  have h := Delta.Reach.step HR.out.reach (.hit hin HH.out)
                  rw [pend_zero out (by rfl)] at h
                  exact h
                · intro init p hp
                  have := List.append_inj_right' hp rfl
                  simp at this
                  subst this
                  simp
                  omega
                · have h := HO1.out
                  rw [piecesV_append _ (⟨n, z, ByteArray.empty⟩ : Pc)] at h
                  simpa using h
              case measure => simp [intOf]; omega
            · have HOW := Lib.hid hown
              have q6 : (own.toList == []) = false := beq_eq_false_iff_ne.2 fun e => hown (by rw [str_inj (show own.toList = ByteArray.empty.toList by rw [e, ByteArray.toList_eq]; rfl)]; rfl)
              have q6' : (own.toList != []) = true := bne_iff_ne.2 fun e => hown (by rw [str_inj (show own.toList = ByteArray.empty.toList by rw [e, ByteArray.toList_eq]; rfl)]; rfl)
              have q6'' : own.toList.isEmpty = false := by simp; exact fun e => hown (by rw [str_inj (show own.toList = ByteArray.empty.toList by rw [e, ByteArray.toList_eq]; rfl)]; rfl)
              have HN1 := Lib.hid (show out.length + 1 ≤ maxLen by unfold maxLen; omega)
              have HN2 := Lib.hid (show (out.length + 1) * 32 ≤ 140737488355328 by omega)
              have HN3 := Lib.hid (show out.length + 1 + 1 ≤ maxLen by unfold maxLen; omega)
              have HN4 := Lib.hid (show (out.length + 1 + 1) * 32 ≤ 140737488355328 by omega)
              clear hown
              go_upto_region 17 with (at_builtin; go_must (refine wpList_pushN (us := [.int .i64 0, .int .i64 0, .string own]) 3 _ 32 HRW.out Tryd.underlying43 infoPc rfl (by omega) rfl rfl (by simp [Value.oneCell']) rfl HN1.out HN2.out HBW.out.size ?_; intro v' w5 hown1 hbel1 _; have HO0 := Lib.hid hown1; have HB0 := Lib.hid (HBW.out.trans hbel1); clear hown1 hbel1))
              go_wp2_with (at_builtin; go_must (refine wpList_pushN (us := [.int .i64 (n : Nat), .int .i64 (z : Nat), .string ByteArray.empty]) 3 _ 32 HO0.out Tryd.underlying43 infoPc rfl (by omega) rfl rfl (by simp [Value.oneCell']) rfl HN3.out HN4.out HB0.out.size ?_; intro v' w6 hown1 hbel1 _; have HO1 := Lib.hid hown1; have HB1 := Lib.hid (HB0.out.trans hbel1); clear hown1 hbel1))
              go_roundw
              case rel =>
                refine ⟨i + z, out ++ [⟨0, 0, own⟩] ++ [⟨n, z, ByteArray.empty⟩], ByteArray.empty, by go_num, rfl, ⟨?_, ?_, ?_, HB1.out, by simp⟩⟩
                · rw [pend_zero _ (by rfl)]
                  have h := Delta.Reach.step HR.out.reach (.hit hin HH.out)
                  rw [pend_pos out HOW.out] at h
                  exact h
                · intro init p hp
                  have := List.append_inj_right' hp rfl
                  simp at this
                  subst this
                  simp
                  omega
                · have h := HO1.out
                  rw [piecesV_append _ (⟨0, 0, own⟩ : Pc), piecesV_append _ (⟨n, z, ByteArray.empty⟩ : Pc)] at h
                  simpa using h
              case measure => simp [intOf]; omega
      · have q2 : decide ((i : Int) + (z : Int) ≤ (t.size : Int)) = false := decide_eq_false (by omega)
        have HMISS := Lib.hid (show i + z ≤ t.size → Miss o z (t.extract i (i + z)) from fun h => absurd h hin)
        have HBZ := Lib.hid (Below.refl wm.heap.size wm)
        go_wp2_with fail
        go_loopw [10, 11] (fun av kv wr => av = .int .i64 (-1) ∧ kv = .int .i64 0 ∧ wr = wm) (fun _ _ _ => 0)
        case atStart => exact ⟨rfl, rfl, rfl⟩
        case round =>
          obtain ⟨rfl, rfl, hw⟩ := hrel
          subst hw
          obtain ⟨wm, rfl⟩ : ∃ wm : World, wm = wr := ⟨_, rfl⟩
          rcases Nat.lt_or_ge o.size z with hzo | hzo
          · have q3 : decide ((z : Int) ≤ (o.size : Int)) = false := decide_eq_false (by omega)
            have q3' : decide (z ≤ o.size) = false := decide_eq_false (by omega)
            have HOWN := Lib.hid (HMISS.out)
            have hcz : (t.extract i (i + 1)).size = 1 := by rw [ext_size _ _ _ (by omega)]; omega
            have HNEW := Lib.hid (show ∀ wx, Below wm.heap.size wm wx → RefD w wx o t z (i + 1) out (own ++ t.extract i (i + 1)) _ from fun wx hb => by
              have h := HR.out.later hb
              refine ⟨?_, h.tail, h.row, h.below, by rw [ByteArray.size_append, hcz]; omega⟩
              have h1 := Delta.Reach.step h.reach (.own hlt HOWN.out)
              rw [pend_push h.tail (by rw [hcz]; omega)] at h1
              exact h1)
            clear hcz
            go_wp2_with fail
            go_roundw
            case rel => exact ⟨i + 1, out, own ++ t.extract i (i + 1), by go_num, rfl, HNEW.out _ HBZ.out⟩
            case measure => simp [intOf]; omega
          · have q3 : decide ((z : Int) ≤ (o.size : Int)) = true := decide_eq_true (by omega)
            have q3' : decide (z ≤ o.size) = true := decide_eq_true (by omega)
            have HOWN := Lib.hid (HMISS.out)
            have hcz : (t.extract i (i + 1)).size = 1 := by rw [ext_size _ _ _ (by omega)]; omega
            have HNEW := Lib.hid (show ∀ wx, Below wm.heap.size wm wx → RefD w wx o t z (i + 1) out (own ++ t.extract i (i + 1)) _ from fun wx hb => by
              have h := HR.out.later hb
              refine ⟨?_, h.tail, h.row, h.below, by rw [ByteArray.size_append, hcz]; omega⟩
              have h1 := Delta.Reach.step h.reach (.own hlt HOWN.out)
              rw [pend_push h.tail (by rw [hcz]; omega)] at h1
              exact h1)
            clear hcz
            go_wp2_with fail
            go_roundw
            case rel => exact ⟨i + 1, out, own ++ t.extract i (i + 1), by go_num, rfl, HNEW.out _ HBZ.out⟩
            case measure => simp [intOf]; omega
    · obtain rfl : i = t.size := by omega
      have q1 : decide (t.size < t.size) = false := decide_eq_false hlt
      have HRE := Lib.hid HR.out.reach
      have HRW := Lib.hid HR.out.row
      have HBW := Lib.hid HR.out.below
      by_cases hown : own.size = 0
      · have he : own = ByteArray.empty := by
          apply ByteArray.ext
          apply Array.eq_empty_of_size_eq_zero
          exact hown
        subst he
        go_wp2_with fail
        go_ret
        exact ⟨_, out, rfl, by have h := HRE.out; rw [pend_zero out (by rfl)] at h; exact h, HRW.out, HBW.out⟩
      · have HOW := Lib.hid hown
        have q6 : (own.toList == []) = false := beq_eq_false_iff_ne.2 fun e => hown (by rw [str_inj (show own.toList = ByteArray.empty.toList by rw [e, ByteArray.toList_eq]; rfl)]; rfl)
        have q6' : (own.toList != []) = true := bne_iff_ne.2 fun e => hown (by rw [str_inj (show own.toList = ByteArray.empty.toList by rw [e, ByteArray.toList_eq]; rfl)]; rfl)
        have q6'' : own.toList.isEmpty = false := by simp; exact fun e => hown (by rw [str_inj (show own.toList = ByteArray.empty.toList by rw [e, ByteArray.toList_eq]; rfl)]; rfl)
        have HN1 := Lib.hid (show out.length + 1 ≤ maxLen by unfold maxLen; omega)
        have HN2 := Lib.hid (show (out.length + 1) * 32 ≤ 140737488355328 by omega)
        clear hown
        go_wp2_with (at_builtin; go_must (refine wpList_pushN (us := [.int .i64 0, .int .i64 0, .string own]) 3 _ 32 HRW.out Tryd.underlying43 infoPc rfl (by omega) rfl rfl (by simp [Value.oneCell']) rfl HN1.out HN2.out HBW.out.size ?_; intro v' w5 hown1 hbel1 _; have HO0 := Lib.hid hown1; have HB0 := Lib.hid (HBW.out.trans hbel1); clear hown1 hbel1))
        go_ret
        refine ⟨_, out ++ [⟨0, 0, own⟩], rfl, by have h := HRE.out; rw [pend_pos out HOW.out] at h; exact h, ?_, HB0.out⟩
        have h := HO0.out
        rw [piecesV_append _ (⟨0, 0, own⟩ : Pc)] at h
        simpa using h

end Go.Proofs.YtglcljeeigilnaaDoor
