/- The walk of DedupDrop. -/
import Derived.Test.YtnkihdkcmhbhkaaDoorDedup6
import Derived.Test.YtnkihdkcmhbhkaaDoorReadStrs
import Derived.Test.YtnkihdkcmhbhkaaDoorTold
namespace Go.Proofs.YtnkihdkcmhbhkaaDoor
open Go.RowKit Go.MapKept

/-- no chunk that lives has the text -/
def St.no (s : St) (t : ByteArray) : Prop := ∀ (i k : Nat), s.C[i]? = some (t, k) → k = 0

theorem PutRel.keepNo {s s' : St} {t u : ByteArray} {n : Int} {fresh : Bool} {ev : Value} (h : PutRel s s' t n fresh ev) (hne : t ≠ u) (hn : s.no u) : s'.no u ∧ s'.C.length ≤ s.C.length + 1 ∧ s'.top ≤ s.top + 1 := by
  cases h with
  | long _ e => subst e; exact ⟨hn, by omega, by omega⟩
  | had i k _ _ hi e =>
    subst e
    refine ⟨fun j m hj => ?_, by simp, by simp⟩
    simp only at hj
    by_cases hij : i = j
    · subst hij
      rw [List.getElem?_set_self (List.getElem?_eq_some_iff.1 hi).1] at hj
      simp at hj
      exact absurd hj.1 hne
    · rw [List.getElem?_set_ne hij] at hj
      exact hn j m hj
  | full _ _ _ e => subst e; exact ⟨hn, by omega, by omega⟩
  | new _ _ _ e =>
    subst e
    refine ⟨fun j m hj => ?_, by simp, by simp⟩
    simp only at hj
    by_cases hjl : j < s.C.length
    · rw [List.getElem?_append_left hjl] at hj
      exact hn j m hj
    · rw [List.getElem?_append_right (by omega)] at hj
      have hj0 : j - s.C.length = 0 := by
        rcases Nat.eq_zero_or_pos (j - s.C.length) with h0 | h0
        · exact h0
        · rw [List.getElem?_eq_none (by simp; omega)] at hj
          cases hj
      rw [hj0] at hj
      simp at hj
      exact absurd hj.1 hne

theorem PutRel.fresh0 {s s' : St} {t : ByteArray} {n : Int} {fresh : Bool} {ev : Value} (h : PutRel s s' t n fresh ev) (hn : s.no t) (h64 : t.size ≤ 64) (hl : s.C.length < 40) :
    n = s.C.length ∧ fresh = true ∧ ev = .nilIface ∧ s'.C = s.C ++ [(t, 1)] ∧ s'.top = s.top + 1 := by
  cases h with
  | long h _ => omega
  | had i k _ hk hi e => have := hn i k hi; omega
  | full _ _ h _ => omega
  | new _ _ _ e => subst e; exact ⟨rfl, rfl, rfl, rfl, rfl⟩

theorem PutRel.again {s s' : St} {t : ByteArray} {n : Int} {fresh : Bool} {ev : Value} {i k : Nat} (h : PutRel s s' t n fresh ev) (hok : s.ok) (hi : s.C[i]? = some (t, k)) (hk : 0 < k) (h64 : t.size ≤ 64) :
    n = i ∧ fresh = false ∧ ev = .nilIface ∧ s'.C = s.C.set i (t, k + 1) ∧ s'.top = s.top + 1 := by
  cases h with
  | long h _ => omega
  | had j m _ hm hj e =>
    subst e
    obtain rfl := St.one hok hi hj hk hm
    rw [hi] at hj
    simp at hj
    subst hj
    exact ⟨rfl, rfl, rfl, rfl, rfl⟩
  | full _ h _ _ => have := h i k hi; omega
  | new _ h _ _ => have := h i k hi; omega

structure Drop1 (W wr : World) (base g : Nat) (u : ByteArray) (j : Nat) : Prop where
  store : ∃ s, StoreIs wr W.heap.size base g s ∧ s.C.length ≤ j ∧ s.top ≤ j ∧ s.no u
  below : Below W.heap.size W wr
structure Drop2 (W wr : World) (base g : Nat) (u : ByteArray) (id q : Nat) : Prop where
  store : ∃ s, StoreIs wr W.heap.size base g s ∧ s.C.length ≤ 31 ∧ s.top ≤ 30 + q ∧ ((q = 0 ∧ s.C.length ≤ 30 ∧ s.no u) ∨ (0 < q ∧ s.C[id]? = some (u, q)))
  below : Below W.heap.size W wr
structure Drop3 (W wr : World) (base g : Nat) (u : ByteArray) (id q m : Nat) : Prop where
  store : ∃ s, StoreIs wr W.heap.size base g s ∧ s.C.length ≤ 31 ∧ s.top ≤ 50 ∧ ((q < m ∧ s.C[id]? = some (u, m - q)) ∨ (q = m ∧ s.C[id]? = some (ByteArray.empty, 0) ∧ s.no u))
  below : Below W.heap.size W wr

theorem St.no_gone {s : St} (h : s.ok) {u : ByteArray} {i k : Nat} (hi : s.C[i]? = some (u, k)) (hk : 0 < k) (M : List Ent) : (St.mk (s.C.set i (ByteArray.empty, 0)) M s.c s.top).no u := by
  intro j m hj
  simp only at hj
  by_cases hij : i = j
  · subst hij
    rw [List.getElem?_set_self (List.getElem?_eq_some_iff.1 hi).1] at hj
    simp at hj
    omega
  · rw [List.getElem?_set_ne hij] at hj
    rcases Nat.eq_zero_or_pos m with h0 | h0
    · exact h0
    · exact absurd (St.one h hi hj hk h0) hij

theorem StoreIs.lowerD {w : World} {B B' base g : Nat} {s : St} (h : StoreIs w B base g s) (hB : B' ≤ B) : StoreIs w B' base g s := by
  obtain ⟨ok, lo, ⟨v, b, h1, h2, h3, h4, h5, h6, h7⟩, free⟩ := h
  exact ⟨ok, ⟨by omega, lo.2.1, lo.2.2⟩, ⟨v, b, by omega, h2, h3, h4, h5, h6, h7⟩, free⟩
theorem HasStrs.liesD {w : World} {a : Option Addr} {n cap : Nat} {L : List ByteArray} (h : HasStrs w (.slice a n cap) L) {j : Nat} {x : ByteArray} (hx : L[j]? = some x) :
    ∃ b off, a = some ⟨b, off, none⟩ ∧ w.cell? ⟨b, off + j, none⟩ = some (.string x) := by
  obtain ⟨a', cap', h1, -, -, h4⟩ := h
  cases h1
  obtain ⟨b, off, h5, -, h6⟩ := h4 (Nat.lt_of_le_of_lt (Nat.zero_le _) (List.getElem?_eq_some_iff.1 hx).1)
  exact ⟨b, off, h5, h6 j x hx⟩

set_option maxRecDepth 100000 in
set_option maxHeartbeats 4000000 in
theorem ddrop_walk (v0 : Value) (u : ByteArray) (many : Int) (W : World) {ts : List ByteArray} (hv0 : StrsArg W v0 ts) (hu : u.size ≤ 140737488351232) (_hm : -9223372036854775808 ≤ many ∧ many ≤ 9223372036854775807) (hH : Handled W) :
    Calls Tryd.prog 4 #[v0, .string u, .int .i64 many] W fun e w' => e = .returned (.bool true) ∧ Below W.heap.size W w' := by
  have HV := Lib.hid hv0.1
  have HSZ := Lib.hid hv0.2
  have HH := Lib.hid hH
  clear hv0 hH
  obtain ⟨la, n, lcap, rfl, hn, hnc, hcm⟩ : ∃ la n lcap, v0 = .slice la n lcap ∧ n = ts.length ∧ n ≤ lcap ∧ lcap ≤ maxLen := by
    obtain ⟨a, cap, h, h1, h2, -⟩ := HV.out
    exact ⟨a, ts.length, cap, h, rfl, h1, h2⟩
  have hnm : n ≤ 9223372036854775807 := by unfold maxLen at hcm; omega
  have HN := Lib.hid hn
  clear hn hnc hcm
  go_enter Tryd.func4, Tryd.ntmps4
  go_wp2_with fail
  refine (dfact_walk _).mono ?_
  rintro _ w1 ⟨rfl, hb⟩
  have HB1 := Lib.hid hb
  clear hb
  go_wp2_with fail
  refine (law_inD _ _ _ _).mono ?_
  by_cases hmin : (1 : Int) ≤ many ∧ many ≤ 9
  · rw [decide_eq_true hmin]
    rintro _ w2 ⟨rfl, rfl⟩
    obtain ⟨mn, rfl⟩ : ∃ mn : Nat, many = mn := ⟨many.toNat, by omega⟩
    have hmn1 : 1 ≤ mn := by omega
    have hmn9 : mn ≤ 9 := by omega
    by_cases hlong : 64 < u.size
    · have q1 : decide ((64 : Int) < (u.size : Int)) = true := decide_eq_true (by omega)
      clear hmin _hm
      go_wp2_with fail
      go_ret
      exact ⟨rfl, HB1.out⟩
    · have q1 : decide ((64 : Int) < (u.size : Int)) = false := decide_eq_false (by omega)
      have hu64 : u.size ≤ 64 := by omega
      clear hmin _hm hlong
      go_wp2_with fail
      refine (dnew_walk _).mono ?_
      rintro _ w3 ⟨g, base, rfl, hs, hb⟩
      have HS3 := Lib.hid (hs.lowerD HB1.out.size)
      have HB3 := Lib.hid (HB1.out.trans (hb.mono HB1.out.size))
      clear hs hb q1
      go_wp2_with fail
      go_loopw [9] (fun i wr => ∃ j : Nat, j ≤ n ∧ j ≤ 30 ∧ i = .int .i64 j ∧ Drop1 W wr base g u j) (fun i _ => 30 - (intOf i).toNat)
      case atStart => exact ⟨0, by omega, by omega, rfl, ⟨_, HS3.out, by simp [St.new], by simp [St.new], fun i k h => by simp [St.new] at h⟩, HB3.out⟩
      case round =>
        obtain ⟨j, hj, hj30, rfl, ⟨s, hs, hlen, htop, hno⟩, hb⟩ := hrel
        have HS := Lib.hid hs
        have HLEN := Lib.hid hlen
        have HTOP := Lib.hid htop
        have HNO := Lib.hid hno
        have HB := Lib.hid hb
        clear hs hlen htop hno hb
        by_cases hgo : j < n ∧ j < 30
        · obtain ⟨hlt, h30⟩ := hgo
          have q3 : decide (j < n) = true := decide_eq_true hlt
          have q4 : decide ((j : Int) < 30) = true := decide_eq_true (by omega)
          obtain ⟨t, ht⟩ : ∃ t, ts[j]? = some t := ⟨_, List.getElem?_eq_getElem (by have := HN.out; omega)⟩
          obtain ⟨bt, ot, rfl, htc⟩ := (HV.out.below HB.out).liesD ht
          have htsz := HSZ.out t (List.mem_of_getElem? ht)
          clear ht
          by_cases htu : t = u
          · subst htu
            go_wp2_with fail
            go_roundw
            case rel => exact ⟨j + 1, by omega, by omega, by go_num, ⟨s, HS.out, by have := HLEN.out; omega, by have := HTOP.out; omega, HNO.out⟩, HB.out⟩
            case measure => simp [intOf]; omega
          · have q5 := str_beq_false htu
            have HTU := Lib.hid htu
            clear htu
            go_wp2_with fail
            refine (put_walk _ W.heap.size base g s t HS.out htsz (by have := HTOP.out; omega)).mono ?_
            rintro _ w5 ⟨m5, fresh, ev, s5, rfl, hrel5, hs5, hb5, -⟩
            have HS5 := Lib.hid hs5
            have HB5 := Lib.hid (HB.out.trans hb5)
            have HK := Lib.hid (hrel5.keepNo HTU.out HNO.out)
            clear hs5 hb5 hrel5 htc
            go_wp2_with fail
            go_roundw
            case rel => exact ⟨j + 1, by omega, by omega, by go_num, ⟨s5, HS5.out, by have := HLEN.out; have := HK.out.2.1; omega, by have := HTOP.out; have := HK.out.2.2; omega, HK.out.1⟩, HB5.out⟩
            case measure => simp [intOf]; omega
        · have hcase : decide (j < n) = false ∨ (decide (j < n) = true ∧ decide ((j : Int) < 30) = false) := by
            by_cases h : j < n
            · exact .inr ⟨decide_eq_true h, decide_eq_false (by omega)⟩
            · exact .inl (decide_eq_false h)
          clear hgo
          have h0 : Drop2 W wr base g u 0 0 := ⟨⟨s, HS.out, by have := HLEN.out; omega, by have := HTOP.out; omega, .inl ⟨rfl, by have := HLEN.out; omega, HNO.out⟩⟩, HB.out⟩
          have H0 := Lib.hid h0
          clear h0
          rcases hcase with q3 | ⟨q3, q4⟩
          all_goals
            go_wp2_with fail
            go_loopw [10, 11] (fun id i wr => ∃ idn q : Nat, q ≤ mn ∧ idn < 40 ∧ i = .int .i64 q ∧ id = .int .i64 idn ∧ Drop2 W wr base g u idn q) (fun _ i _ => mn - (intOf i).toNat)
            case atStart => exact ⟨0, 0, by omega, by omega, rfl, rfl, H0.out⟩
            case round =>
              obtain ⟨idn, q, hq, hid40, rfl, rfl, ⟨s2, hs2, hl2, ht2, hc2⟩, hb2⟩ := hrel
              have HS2 := Lib.hid hs2
              have HC2 := Lib.hid hc2
              have HB2 := Lib.hid hb2
              have HL2 := Lib.hid hl2
              have HT2 := Lib.hid ht2
              clear hs2 hc2 hb2 hl2 ht2
              by_cases hlt2 : q < mn
              · have q6 : decide (q < mn) = true := decide_eq_true hlt2
                go_wp2_with fail
                refine (put_walk _ W.heap.size base g s2 u HS2.out (by omega) (by have := HT2.out; omega)).mono ?_
                rintro _ w5 ⟨m5, fresh, ev, s5, rfl, hrel5, hs5, hb5, -⟩
                have HS5 := Lib.hid hs5
                have HB5 := Lib.hid (HB2.out.trans hb5)
                rcases HC2.out with ⟨hq0, hc30, hno⟩ | ⟨hq0, hC⟩
                · obtain ⟨rfl, rfl, rfl, hC5, ht5⟩ := hrel5.fresh0 hno hu64 (by omega)
                  have HD := Lib.hid (show Drop2 W w5 base g u s2.C.length (q + 1) from ⟨⟨s5, HS5.out, by rw [hC5]; simp; omega, by have := HT2.out; omega, .inr ⟨by omega, by rw [hC5, hq0]; simp⟩⟩, HB5.out⟩)
                  have hl40 : s2.C.length < 40 := by omega
                  obtain ⟨idm, hidm⟩ : ∃ idm, idm = s2.C.length := ⟨_, rfl⟩
                  rw [← hidm] at HD hl40 ⊢
                  have q7 : ((q : Int) == 0) = true := beq_iff_eq.2 (by omega)
                  have q8 : decide ((0 : Int) < (q : Int)) = false := decide_eq_false (by omega)
                  have q8' : decide (0 < q) = false := decide_eq_false (by omega)
                  have HQ0 := Lib.hid hq0
                  clear hs5 hb5 hrel5 hC5 ht5 hidm hno hc30 hq0
                  go_wp2_with fail
                  go_roundw
                  case rel => exact ⟨idm, q + 1, by omega, by omega, by go_num, rfl, HD.out⟩
                  case measure => simp [intOf]; omega
                · obtain ⟨rfl, rfl, rfl, hC5, ht5⟩ := hrel5.again HS2.out.ok hC hq0 hu64
                  have hlt5 := (List.getElem?_eq_some_iff.1 hC).1
                  have HD := Lib.hid (show Drop2 W w5 base g u idn (q + 1) from ⟨⟨s5, HS5.out, by rw [hC5]; have := HL2.out; simpa using this, by have := HT2.out; omega, .inr ⟨by omega, by rw [hC5]; simp [hlt5]⟩⟩, HB5.out⟩)
                  have q7 : ((q : Int) == 0) = false := beq_eq_false_iff_ne.2 (by omega)
                  have q8 : decide ((0 : Int) < (q : Int)) = true := decide_eq_true (by omega)
                  have q8' : decide (0 < q) = true := decide_eq_true (by omega)
                  clear hs5 hb5 hrel5 hC5 ht5 hlt5 hC
                  go_wp2_with fail
                  go_roundw
                  case rel => exact ⟨idn, q + 1, by omega, by omega, by go_num, rfl, HD.out⟩
                  case measure => simp [intOf]; omega
              · have q6 : decide (q < mn) = false := decide_eq_false hlt2
                obtain rfl : q = mn := by omega
                have h3 : Drop3 W wr base g u idn 0 q := by
                  rcases HC2.out with ⟨h, -⟩ | ⟨-, hC⟩
                  · omega
                  · exact ⟨⟨s2, HS2.out, HL2.out, by have := HT2.out; omega, .inl ⟨by omega, by simpa using hC⟩⟩, HB2.out⟩
                have H3 := Lib.hid h3
                clear h3
                go_wp2_with fail
                go_loopw [15] (fun i wr => ∃ p : Nat, p ≤ q ∧ i = .int .i64 p ∧ Drop3 W wr base g u idn p q) (fun i _ => q - (intOf i).toNat)
                case atStart => exact ⟨0, by omega, rfl, H3.out⟩
                case round =>
                  obtain ⟨p, hp, rfl, ⟨s3, hs3, hl3, ht3, hc3⟩, hb3⟩ := hrel
                  have HS3 := Lib.hid hs3
                  have HC3 := Lib.hid hc3
                  have HB3 := Lib.hid hb3
                  have HL3 := Lib.hid hl3
                  have HT3 := Lib.hid ht3
                  clear hs3 hc3 hb3 hl3 ht3
                  by_cases hlt3 : p < q
                  · have q7 : decide (p < q) = true := decide_eq_true hlt3
                    obtain ⟨m, hm⟩ : ∃ m, q - p = m + 1 := ⟨q - p - 1, by omega⟩
                    have hC : s3.C[idn]? = some (u, m + 1) := by
                      rcases HC3.out with ⟨-, h⟩ | ⟨h, -⟩
                      · rw [← hm]; exact h
                      · omega
                    have HC := Lib.hid hC
                    have hm1 : p + m + 1 = q := by omega
                    clear hC hm
                    go_wp2_with fail
                    refine (Get_ok _ W.heap.size base g s3 idn (m + 1) u HS3.out HC.out (by omega)).mono ?_
                    rintro _ w5 ⟨rfl, rfl⟩
                    go_wp2_with fail
                    by_cases hm0 : m = 0
                    · have HC1 := Lib.hid (show s3.C[idn]? = some (u, 1) by rw [HC.out, hm0])
                      refine (drop_last _ W.heap.size base g s3 idn u HS3.out HC1.out).mono ?_
                      rintro _ w6 ⟨rfl, ⟨jj, bb, hM, hs6⟩, hb6, -⟩
                      have hD : Drop3 W w6 base g u idn (p + 1) q := ⟨⟨_, hs6, by simpa using HL3.out, HT3.out, .inr ⟨by omega, by simp [(List.getElem?_eq_some_iff.1 HC1.out).1], St.no_gone HS3.out.ok HC1.out (by omega) _⟩⟩, HB3.out.trans hb6⟩
                      have HD := Lib.hid hD
                      clear hs6 hb6 hM hD hm0
                      go_wp2_with fail
                      go_roundw
                      case rel => exact ⟨p + 1, by omega, by go_num, HD.out⟩
                      case measure => simp [intOf]; omega
                    · refine (drop_more _ W.heap.size base g s3 idn m u HS3.out (by have := HT3.out; omega) (by omega) HC.out).mono ?_
                      rintro _ w6 ⟨rfl, hs6, hb6, -⟩
                      have hD : Drop3 W w6 base g u idn (p + 1) q := ⟨⟨_, hs6, by simpa using HL3.out, HT3.out, .inl ⟨by omega, by simp [(List.getElem?_eq_some_iff.1 HC.out).1]; omega⟩⟩, HB3.out.trans hb6⟩
                      have HD := Lib.hid hD
                      clear hs6 hb6 hD hm0
                      go_wp2_with fail
                      go_roundw
                      case rel => exact ⟨p + 1, by omega, by go_num, HD.out⟩
                      case measure => simp [intOf]; omega
                  · have q7 : decide (p < q) = false := decide_eq_false hlt3
                    obtain rfl : p = q := by omega
                    obtain ⟨hC, hno⟩ : s3.C[idn]? = some (ByteArray.empty, 0) ∧ s3.no u := by
                      rcases HC3.out with ⟨h, -⟩ | ⟨-, h⟩
                      · omega
                      · exact h
                    have HC := Lib.hid hC
                    have HNO3 := Lib.hid hno
                    have hidl := (List.getElem?_eq_some_iff.1 hC).1
                    have HHW := Lib.hid (HH.out.below HB3.out)
                    clear hC hno
                    go_wp2_with fail
                    refine (drop_no _ W.heap.size base g s3 (idn : Nat) 5 (by omega) HS3.out (.inr ⟨rfl, idn, _, rfl, HC.out⟩)).mono ?_
                    rintro _ w5 ⟨rfl, rfl⟩
                    go_wp2_with fail
                    refine (error_same 5 _ HHW.out).mono ?_
                    rintro _ w6 ⟨rfl, hb6⟩
                    have HS6 := Lib.hid (HS3.out.below hb6)
                    have HB6 := Lib.hid (HB3.out.trans (hb6.mono HB3.out.size))
                    clear hb6
                    go_wp2_with fail
                    refine (put_walk _ W.heap.size base g s3 u HS6.out (by omega) (by have := HT3.out; omega)).mono ?_
                    rintro _ w7 ⟨m7, fresh, ev, s7, rfl, hrel7, hs7, hb7, -⟩
                    obtain ⟨rfl, rfl, rfl, hC7, ht7⟩ := hrel7.fresh0 HNO3.out hu64 (by have := HL3.out; omega)
                    have HB7 := Lib.hid (HB6.out.trans hb7)
                    obtain ⟨m7, hm7⟩ : ∃ m7, m7 = s3.C.length := ⟨_, rfl⟩
                    rw [← hm7] at hidl ⊢
                    have q8 : decide ((idn : Int) < (m7 : Int)) = true := decide_eq_true (by omega)
                    have q8' : decide (idn < m7) = true := decide_eq_true hidl
                    clear hs7 hb7 hrel7 hC7 ht7 hm7
                    go_wp2_with fail
                    go_ret
                    exact ⟨rfl, HB7.out⟩
  · rw [decide_eq_false hmin]
    rintro _ w2 ⟨rfl, rfl⟩
    go_wp2_with fail
    go_ret
    exact ⟨rfl, HB1.out⟩

end Go.Proofs.YtnkihdkcmhbhkaaDoor
