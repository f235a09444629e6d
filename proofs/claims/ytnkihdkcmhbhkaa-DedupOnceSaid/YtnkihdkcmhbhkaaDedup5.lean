/- The walk of DedupOnce. -/
import Derived.Test.YtnkihdkcmhbhkaaDedup4
import Derived.Test.YtnkihdkcmhbhkaaReadStrs
namespace Go.Proofs.Ytnkihdkcmhbhkaa
open Go.RowKit Go.MapKept

theorem infoIntD : (Try.prog.info? 3).map (fun i => (i.zero, i.size, i.bytes)) = some (some (.int .i64 0), 1, 8) := by kernel_rfl
def numsD (l : List Nat) : List Value := ints (l.map Int.ofNat)
theorem numsD_push (l : List Nat) (x : Nat) : numsD l ++ [.int .i64 (x : Nat)] = numsD (l ++ [x]) := by simp [numsD, ints]
theorem numsD_at {l : List Nat} {q x : Nat} (h : l[q]? = some x) : (numsD l)[q]? = some (.int .i64 (x : Nat)) := by simp [numsD, ints, h]

structure OnceRel (W wr : World) (base g : Nat) (ts : List ByteArray) (j : Nat) (v : Value) (ids : List Nat) : Prop where
  store : ∃ s, StoreIs wr W.heap.size base g s ∧ s.C.length ≤ j ∧ s.top = j ∧ ∀ q, q < j → ∃ t id k, ts[q]? = some t ∧ ids[q]? = some id ∧ id < 40 ∧ s.C[id]? = some (t, k) ∧ 0 < k
  own : wr.ownsRow base 3 1 v j (numsD ids)
  below : Below W.heap.size W wr

theorem OnceRel.next {W w w1 w2 : World} {base g j m : Nat} {ts : List ByteArray} {t : ByteArray} {v v' : Value} {ids : List Nat} {s s' : St} {o : Obj} {k : Nat}
    (hs : s.C.length ≤ j) (htop : s.top = j) (hf : ∀ q, q < j → ∃ t id k, ts[q]? = some t ∧ ids[q]? = some id ∧ id < 40 ∧ s.C[id]? = some (t, k) ∧ 0 < k) (hown : w.ownsRow base 3 1 v j (numsD ids))
    (ht : ts[j]? = some t) (h1 : s'.C.length ≤ s.C.length + 1) (h2 : s'.top = s.top + 1) (hm : m < 40) (hk : 0 < k) (h3 : s'.C[m]? = some (t, k))
    (h4 : ∀ (q k : Nat) (u : ByteArray), s.C[q]? = some (u, k) → 0 < k → ∃ k', 0 < k' ∧ s'.C[q]? = some (u, k'))
    (hs' : StoreIs w1 W.heap.size base g s') (hb1 : Below W.heap.size W w1) (hkept : Kept w w1 g) (hgr : (w1.alloc o).grownBy w2 v.ownBlock) (hown2 : w2.ownsRow base 3 1 v' (j + 1) (numsD ids ++ [.int .i64 (m : Nat)])) (hb2 : Below base w1 w2) :
    OnceRel W w2 base g ts (j + 1) v' (ids ++ [m]) := by
  have hlen : ids.length = j := by have := hown.1; simp [numsD, ints] at this; omega
  have hown1 := hkept.own hown hs'.lo.2.1 (by decide)
  refine ⟨⟨s', hs'.pushed (by decide) hown1 hgr, by omega, by omega, fun q hq => ?_⟩, by rw [numsD_push] at hown2; exact hown2, hb1.trans (hb2.mono (by have := hs'.lo; omega))⟩
  by_cases hqj : q < j
  · obtain ⟨t', id, k', g1, g2, g3, g4, g5⟩ := hf q hqj
    obtain ⟨k'', g6, g7⟩ := h4 id k' t' g4 g5
    exact ⟨t', id, k'', g1, by rw [List.getElem?_append_left (by omega)]; exact g2, g3, g7, g6⟩
  · obtain rfl : q = j := by omega
    exact ⟨t, m, k, ht, by rw [← hlen]; simp, hm, h3, hk⟩

theorem strD_false {a b : ByteArray} (h : a ≠ b) : (a.toList == b.toList) = false := beq_eq_false_iff_ne.2 fun e => h (by
  rw [ByteArray.toList_eq, ByteArray.toList_eq] at e
  exact ByteArray.ext (Array.toList_inj.1 e))

theorem StoreIs.lower {w : World} {B B' base g : Nat} {s : St} (h : StoreIs w B base g s) (hB : B' ≤ B) : StoreIs w B' base g s := by
  obtain ⟨ok, lo, ⟨v, b, h1, h2, h3, h4, h5, h6, h7⟩, free⟩ := h
  exact ⟨ok, ⟨by omega, lo.2.1, lo.2.2⟩, ⟨v, b, by omega, h2, h3, h4, h5, h6, h7⟩, free⟩

theorem HasStrs.lies {w : World} {a : Option Addr} {n cap : Nat} {L : List ByteArray} (h : HasStrs w (.slice a n cap) L) {j : Nat} {x : ByteArray} (hx : L[j]? = some x) :
    ∃ b off, a = some ⟨b, off, none⟩ ∧ w.cell? ⟨b, off + j, none⟩ = some (.string x) := by
  obtain ⟨a', cap', h1, -, -, h4⟩ := h
  cases h1
  obtain ⟨b, off, h5, -, h6⟩ := h4 (Nat.lt_of_le_of_lt (Nat.zero_le _) (List.getElem?_eq_some_iff.1 hx).1)
  exact ⟨b, off, h5, h6 j x hx⟩

set_option maxRecDepth 100000 in
set_option maxHeartbeats 4000000 in
theorem once_walk (v0 : Value) (a b : Int) (W : World) {ts : List ByteArray} (hv0 : StrsArg W v0 ts) (_ha : -9223372036854775808 ≤ a ∧ a ≤ 9223372036854775807) (_hb : -9223372036854775808 ≤ b ∧ b ≤ 9223372036854775807) :
    Calls Try.prog 6 #[v0, .int .i64 a, .int .i64 b] W fun e w' => e = .returned (.bool true) ∧ Below W.heap.size W w' := by
  have HV := Lib.hid hv0.1
  have HSZ := Lib.hid hv0.2
  clear hv0
  obtain ⟨la, n, lcap, rfl, hn, hnc, hcm⟩ : ∃ la n lcap, v0 = .slice la n lcap ∧ n = ts.length ∧ n ≤ lcap ∧ lcap ≤ maxLen := by
    obtain ⟨a, cap, h, h1, h2, -⟩ := HV.out
    exact ⟨a, ts.length, cap, h, rfl, h1, h2⟩
  have hnm : n ≤ 9223372036854775807 := by unfold maxLen at hcm; omega
  have HN := Lib.hid hn
  clear hn hnc hcm
  go_enter Try.func6, Try.ntmps6
  go_wp2_with fail
  refine (dfact_walk _).mono ?_
  rintro _ w1 ⟨rfl, hb⟩
  have HB1 := Lib.hid hb
  clear hb
  go_wp2_with fail
  refine (law_inD _ _ _ _).mono ?_
  by_cases hain : (0 : Int) ≤ a ∧ a ≤ (n : Int) - 1
  · rw [decide_eq_true hain]
    rintro _ w2 ⟨rfl, rfl⟩
    go_wp2_with fail
    refine (law_inD _ _ _ _).mono ?_
    by_cases hbin : (0 : Int) ≤ b ∧ b ≤ (n : Int) - 1
    · rw [decide_eq_true hbin]
      rintro _ w2 ⟨rfl, rfl⟩
      by_cases ha39 : 39 < a
      · have q1 : decide (39 < a) = true := decide_eq_true ha39
        go_wp2_with fail
        go_ret
        exact ⟨rfl, HB1.out⟩
      · have q1 : decide (39 < a) = false := decide_eq_false ha39
        by_cases hb39 : 39 < b
        · have q2 : decide (39 < b) = true := decide_eq_true hb39
          go_wp2_with fail
          go_ret
          exact ⟨rfl, HB1.out⟩
        · have q2 : decide (39 < b) = false := decide_eq_false hb39
          go_wp2_with fail
          refine (dnew_walk _).mono ?_
          rintro _ w3 ⟨g, base, rfl, hs, hb⟩
          have HS3 := Lib.hid (hs.lower HB1.out.size)
          have HB3 := Lib.hid (HB1.out.trans (hb.mono HB1.out.size))
          clear hs hb
          go_wp2_with fail
          go_loopw [9, 10] (fun v i wr => ∃ (j : Nat) (ids : List Nat), j ≤ n ∧ j ≤ 40 ∧ i = .int .i64 j ∧ OnceRel W wr base g ts j v ids) (fun _ i _ => 40 - (intOf i).toNat)
          case atStart => exact ⟨0, [], by omega, by omega, rfl, ⟨_, HS3.out, by simp [St.new], rfl, fun q hq => by omega⟩, World.ownsRow_nil _ _ _ _, HB3.out⟩
          case round =>
            obtain ⟨j, ids, hj, hj40, rfl, ⟨s, hs, hlen, htop, hf⟩, hown, hb⟩ := hrel
            rename_i vI _ _
            have HS := Lib.hid hs
            have HLEN := Lib.hid hlen
            have HTOP := Lib.hid htop
            have HF := Lib.hid hf
            have HOWN := Lib.hid hown
            have HB := Lib.hid hb
            clear hs hlen htop hf hown hb
            by_cases hgo : j < n ∧ j < 40
            · obtain ⟨hlt, h40⟩ := hgo
              have q3 : decide (j < n) = true := decide_eq_true hlt
              have q4 : decide ((j : Int) < 40) = true := decide_eq_true (by omega)
              obtain ⟨t, ht⟩ : ∃ t, ts[j]? = some t := ⟨_, List.getElem?_eq_getElem (by have := HN.out; omega)⟩
              obtain ⟨bt, ot, rfl, htc⟩ := (HV.out.below HB.out).lies ht
              have HT := Lib.hid ht
              have htsz := HSZ.out t (List.mem_of_getElem? ht)
              clear ht
              go_wp2_with fail
              refine (put_walk _ W.heap.size base g s t HS.out htsz (by rw [HTOP.out]; omega)).mono ?_
              rintro _ w5 ⟨m5, fresh, ev, s5, rfl, hrel5, hs5, hb5, hk5⟩
              have HS5 := Lib.hid hs5
              have HB5 := Lib.hid (HB.out.trans hb5)
              have HK5 := Lib.hid hk5
              have hcase := hrel5.went (by have := HLEN.out; omega)
              clear hs5 hb5 hk5 hrel5 htc
              rcases hcase with ⟨rfl, h64⟩ | ⟨rfl, -, hl5, ht5, ⟨m, k5, rfl, hm40, hk50, hc5⟩, hkeep⟩
              · obtain ⟨bt', ot', e', htc⟩ := (HV.out.below HB5.out).lies HT.out
                cases e'
                have q5 : decide ((64 : Int) < (t.size : Int)) = true := decide_eq_true (by omega)
                clear h64
                go_wp2_with fail
                go_ret
                exact ⟨rfl, HB5.out⟩
              · have HL5 := Lib.hid hl5
                have HT5 := Lib.hid ht5
                have HC5 := Lib.hid hc5
                have HKEEP := Lib.hid hkeep
                have HO5 := Lib.hid (HK5.out.own HOWN.out HS5.out.lo.2.1 (by decide))
                have HBASE := Lib.hid HS5.out.lo.2.2
                have HN1 := Lib.hid (show j + 1 ≤ maxLen by unfold maxLen; omega)
                have HN2 := Lib.hid (show (j + 1) * 8 ≤ 140737488355328 by omega)
                clear hl5 ht5 hc5 hkeep
                go_wp2_with (at_builtin; go_must (refine wpList_push (.int .i64 0) 8 HO5.out Try.underlying23 infoIntD rfl rfl rfl rfl HN1.out HN2.out HBASE.out ?_; intro v' w6 hown6 hbel6 hgr6; have HO6 := Lib.hid hown6; have HB6 := Lib.hid hbel6; have HG6 := Lib.hid hgr6; clear hown6 hbel6 hgr6))
                go_roundw
                case rel => exact ⟨j + 1, ids ++ [m], by omega, by omega, by go_num, OnceRel.next HLEN.out HTOP.out HF.out HOWN.out HT.out HL5.out HT5.out hm40 hk50 HC5.out HKEEP.out HS5.out HB5.out HK5.out HG6.out HO6.out HB6.out⟩
                case measure => simp [intOf]; omega
            · have hcase : decide (j < n) = false ∨ (decide (j < n) = true ∧ decide ((j : Int) < 40) = false) := by
                by_cases h : j < n
                · exact .inr ⟨decide_eq_true h, decide_eq_false (by omega)⟩
                · exact .inl (decide_eq_false h)
              obtain ⟨an, rfl⟩ : ∃ an : Nat, a = an := ⟨a.toNat, by omega⟩
              obtain ⟨bn, rfl⟩ : ∃ bn : Nat, b = bn := ⟨b.toNat, by omega⟩
              have haj : an < j := by omega
              have hbj : bn < j := by omega
              have han : an < n := by omega
              have hbn : bn < n := by omega
              obtain ⟨ta, ida, ka, hta, hida, hia, hca, hka⟩ := HF.out an haj
              obtain ⟨tb, idb, kb, htb, hidb, hib, hcb, hkb⟩ := HF.out bn hbj
              have hiff : (ta = tb ∧ ida = idb) ∨ (ta ≠ tb ∧ ida ≠ idb) := by
                by_cases e : ta = tb
                · subst e
                  exact .inl ⟨rfl, St.one HS.out.ok hca hcb hka hkb⟩
                · refine .inr ⟨e, fun e' => e ?_⟩
                  subst e'
                  rw [hca] at hcb
                  simp at hcb
                  exact hcb.1
              have HCA := Lib.hid hca
              obtain ⟨r, cap, rfl, hbr, hrw⟩ := HOWN.out.form (by omega)
              have hc1 := HOWN.out.cellAt an (by omega)
              have hc2 := HOWN.out.cellAt bn (by omega)
              rw [numsD_at hida] at hc1
              rw [numsD_at hidb] at hc2
              obtain ⟨bt, ot, rfl, ht1⟩ := (HV.out.below HB.out).lies hta
              obtain ⟨bt', ot', e', ht2⟩ := (HV.out.below HB.out).lies htb
              cases e'
              clear hgo hca hcb hida hidb hta htb hain hbin q1 q2 ha39 hb39 hkb
              rcases hcase with q3 | ⟨q3, q4⟩
              all_goals
                go_wp2_with fail
                refine (Get_ok _ W.heap.size base g s ida ka ta HS.out HCA.out hka).mono ?_
                rintro _ w5 ⟨rfl, rfl⟩
                rcases hiff with ⟨e1, e2⟩ | ⟨e1, e2⟩
                · subst e1 e2
                  go_wp2_with fail
                  go_quiet (fail)
                  go_wp2_with fail
                  go_ret
                  exact ⟨rfl, below_drewN HB.out _⟩
                · have q5 : (ida == idb) = false := beq_eq_false_iff_ne.2 e2
                  have q6 : ((ida : Int) == (idb : Int)) = false := beq_eq_false_iff_ne.2 (by omega)
                  have q7 := strD_false e1
                  clear e1 e2
                  go_wp2_with fail
                  go_quiet (fail)
                  go_wp2_with fail
                  go_ret
                  exact ⟨rfl, below_drewN HB.out _⟩
    · rw [decide_eq_false hbin]
      rintro _ w2 ⟨rfl, rfl⟩
      go_wp2_with fail
      go_ret
      exact ⟨rfl, HB1.out⟩
  · rw [decide_eq_false hain]
    rintro _ w2 ⟨rfl, rfl⟩
    go_wp2_with fail
    go_ret
    exact ⟨rfl, HB1.out⟩

end Go.Proofs.Ytnkihdkcmhbhkaa
