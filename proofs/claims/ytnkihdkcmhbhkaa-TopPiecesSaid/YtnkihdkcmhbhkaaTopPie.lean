/- The walk of TopPieces. -/
import Derived.Test.YtnkihdkcmhbhkaaDedup4
import Derived.Test.YtnkihdkcmhbhkaaJoin
namespace Go.Proofs.Ytnkihdkcmhbhkaa
open Go.RowKit Go.MapKept Chunk

theorem put_one {s' : St} {t : ByteArray} {n : Int} {fresh : Bool} {ev : Value} (h : PutRel St.new s' t n fresh ev) (ht : t.size ≤ 64) : n = 0 ∧ fresh = true ∧ ev = .nilIface := by
  cases h with
  | long h => omega
  | had i k _ _ hi _ => simp [St.new] at hi
  | full _ _ h _ => simp [St.new] at h
  | new _ _ _ e => exact ⟨rfl, rfl, rfl⟩

def total (C : List Chunk) : Nat := (C.map fun e => e.2 * e.1.size).sum
theorem total_all (C : List Chunk) : allTo C C.length = total C := by unfold allTo total; rw [List.take_length]
theorem total_set {C : List Chunk} {i : Nat} {t : ByteArray} {k : Nat} (h : C[i]? = some (t, k)) : total (C.set i (t, k + 1)) = total C + t.size := by
  induction C generalizing i with
  | nil => simp at h
  | cons x C ih =>
    rcases i with _ | i
    · simp at h
      subst h
      simp [total, Nat.add_mul]
      omega
    · simp at h
      have := ih h
      simp only [total, List.set_cons_succ, List.map_cons, List.sum_cons] at this ⊢
      omega
theorem total_push (C : List Chunk) (t : ByteArray) : total (C ++ [(t, 1)]) = total C + t.size := by simp [total]
theorem kept_le {s : St} (h : s.ok) : keptTo s.C s.C.length ≤ total s.C := by
  have hg := h.gone
  unfold keptTo total
  rw [List.take_length]
  clear h
  generalize s.C = C at hg
  induction C with
  | nil => simp
  | cons x C ih =>
    have h1 := ih (fun e he => hg e (by simp [he]))
    have h2 := hg x (by simp)
    simp only [List.map_cons, List.sum_cons]
    rcases Nat.eq_zero_or_pos x.2 with h0 | h0
    · rw [h2 h0, h0]; simp; omega
    · have := Nat.le_mul_of_pos_left x.1.size h0
      omega
theorem PutRel.total {s s' : St} {t : ByteArray} {n : Int} {fresh : Bool} (h : PutRel s s' t n fresh .nilIface) : total s'.C = total s.C + t.size := by
  cases h with
  | had i k _ _ hi e => subst e; exact total_set hi
  | new _ _ _ e => subst e; exact total_push _ _

structure PieRel (W wr : World) (base rb g n : Nat) (v : Value) (L : List ByteArray) (j z : Nat) : Prop where
  store : ∃ s, StoreIs wr W.heap.size base g s ∧ s.C.length ≤ j ∧ s.top = j ∧ total s.C = z
  own : wr.ownsRow rb 9 1 v n (strsV L)
  below : Below W.heap.size W wr

theorem extract_whole (s : ByteArray) (l : Nat) : s.extract 0 (s.extract 0 l).size = s.extract 0 l := by
  have hz : (s.extract 0 l).size = min l s.size := by simp
  rw [hz]
  by_cases h : l ≤ s.size
  · rw [Nat.min_eq_left h]
  · rw [Nat.min_eq_right (by omega)]
    apply ByteArray.ext
    have h2 : s.data.size = s.size := rfl
    simp only [ByteArray.data_extract]
    apply Array.ext_getElem?
    intro i
    simp only [Array.getElem?_extract, h2]
    by_cases hi : i < s.size
    · rw [if_pos (by omega), if_pos (by omega)]
    · rw [if_neg (by omega), if_neg (by omega)]

theorem StoreIs.lower' {w : World} {B B' base g : Nat} {s : St} (h : StoreIs w B base g s) (hB : B' ≤ B) : StoreIs w B' base g s := by
  obtain ⟨ok, lo, ⟨v, b, h1, h2, h3, h4, h5, h6, h7⟩, free⟩ := h
  exact ⟨ok, ⟨by omega, lo.2.1, lo.2.2⟩, ⟨v, b, by omega, h2, h3, h4, h5, h6, h7⟩, free⟩

theorem HasStrs.lies' {w : World} {a : Option Addr} {n cap : Nat} {L : List ByteArray} (h : HasStrs w (.slice a n cap) L) {j : Nat} {x : ByteArray} (hx : L[j]? = some x) :
    ∃ b off, a = some ⟨b, off, none⟩ ∧ w.cell? ⟨b, off + j, none⟩ = some (.string x) := by
  obtain ⟨a', cap', h1, -, -, h4⟩ := h
  cases h1
  obtain ⟨b, off, h5, -, h6⟩ := h4 (Nat.lt_of_le_of_lt (Nat.zero_le _) (List.getElem?_eq_some_iff.1 hx).1)
  exact ⟨b, off, h5, h6 j x hx⟩

set_option maxRecDepth 100000 in
set_option maxHeartbeats 4000000 in
theorem pie_walk (s : ByteArray) (W : World) (hsz : s.size ≤ 140737488351232) :
    Calls Try.prog 7 #[.string s] W fun e w' => e = .returned (.bool true) ∧ Below W.heap.size W w' := by
  go_enter Try.func7, Try.ntmps7
  go_wp2_with fail
  refine (dnew_walk _).mono ?_
  rintro _ w1 ⟨g1, base1, rfl, hs, hb⟩
  have HS1 := Lib.hid hs
  have HB1 := Lib.hid hb
  clear hs hb
  go_wp2_with fail
  refine (put_walk _ W.heap.size base1 g1 St.new ⟨#[120]⟩ HS1.out (by decide) (by decide)).mono ?_
  rintro _ w2 ⟨n2, fresh, ev, s2, rfl, hrel, -, hb, -⟩
  obtain ⟨rfl, rfl, rfl⟩ := put_one hrel (by decide)
  have HB2 := Lib.hid (HB1.out.trans hb)
  clear hb hrel
  go_wp2_with fail
  refine (dnew_walk _).mono ?_
  rintro _ w3 ⟨g, base, rfl, hs, hb⟩
  have HS3 := Lib.hid hs
  have HB3 := Lib.hid (HB2.out.trans (hb.mono HB2.out.size))
  have h12 : W.heap.size ≤ w2.heap.size := HB2.out.size
  clear hs hb
  go_wp2_with fail
  by_cases h1 : s.size ≤ 2000
  · refine (pieces_any s _ h1).mono ?_
    rintro _ w4 ⟨v4, rfl, hown4, hb4⟩
    have HB4 := Lib.hid (HB3.out.trans (hb4.mono HB3.out.size))
    have HS4 := Lib.hid (HS3.out.below hb4)
    have hgw : g < w3.heap.size := by have := HS3.out.lo; omega
    obtain ⟨cs, hcs⟩ : ∃ cs, cs = cuts s.data.toList := ⟨_, rfl⟩
    rw [← hcs] at hown4
    have SZ := Lib.hid (show ∀ (k c : Nat), cs[k]? = some c → _ from fun k c h => piece_size hcs h)
    have EN := Lib.hid (show lastOf cs cs.length = s.size from by rw [hcs, cuts_end]; simp)
    have hlen : cs.length ≤ 2000 := by rw [hcs]; have := cuts_length s.data.toList; simp at this; omega
    obtain ⟨n, hn⟩ : ∃ n, n = cs.length := ⟨_, rfl⟩
    have PG := Lib.hid (show ∀ (k c : Nat), k < n → cs[k]? = some c → (piecesB s cs n)[k]? = some (s.extract (lastOf cs k) c) from fun k c hk h => piecesB_get s hk h)
    rw [← hn] at hlen hown4
    obtain ⟨L, hL⟩ : ∃ L, L = piecesB s cs n := ⟨_, rfl⟩
    rw [← hL] at PG hown4
    have hLn : L.length = n := by rw [hL, piecesB_length]
    have HLN := Lib.hid hLn
    have HN := Lib.hid hn
    have HO4 := Lib.hid hown4
    obtain ⟨va, cap, rfl⟩ : ∃ va cap, v4 = .slice va n cap := by
      rcases hown4.2 with ⟨rfl, h⟩ | ⟨g', cap', cur, rfl, -⟩
      · exact ⟨none, 0, by rw [h]⟩
      · exact ⟨_, _, rfl⟩
    clear hb4 hown4 hcs hn hL hLn
    go_wp2_with fail
    go_loopw [9, 10, 11] (fun o al i wr => ∃ (j : Nat) (y : ByteArray), j ≤ n ∧ j ≤ 40 ∧ y.size ≤ s.size ∧ y = s.extract 0 (lastOf cs j) ∧ i = .int .i64 j ∧ o = .string y ∧ al = .int .i64 (y.size : Nat) ∧ PieRel W wr base w3.heap.size g n (.slice va n cap) L j y.size) (fun _ _ i _ => 40 - (intOf i).toNat)
    case atStart =>
      refine ⟨0, ByteArray.empty, by omega, by omega, by simp, by simp [lastOf], rfl, rfl, rfl, ⟨_, HS4.out.lower' h12, by simp [St.new], rfl, rfl⟩, HO4.out, HB4.out⟩
    case round =>
      obtain ⟨j, y, hj, hj40, hys, hy, rfl, rfl, rfl, ⟨st, hs, hlen', htop, htot⟩, hown, hb⟩ := hrel
      have HS := Lib.hid hs
      have HLEN := Lib.hid hlen'
      have HTOP := Lib.hid htop
      have HTOT := Lib.hid htot
      have HOWN := Lib.hid hown
      have HB := Lib.hid hb
      have HY := Lib.hid hy
      clear hs hlen' htop htot hown hb hy
      by_cases hgo : j < n ∧ j < 40
      · obtain ⟨hlt, h40⟩ := hgo
        have q3 : decide (j < n) = true := decide_eq_true hlt
        have q4 : decide ((j : Int) < 40) = true := decide_eq_true (by omega)
        obtain ⟨c, hc⟩ : ∃ c, cs[j]? = some c := ⟨_, List.getElem?_eq_getElem (by have := HN.out; omega)⟩
        have HLj := Lib.hid (PG.out j c hlt hc)
        obtain ⟨i1, i2, i3, i4, i5⟩ := SZ.out j c hc
        have EJ := Lib.hid (extract_join s (Nat.le_of_lt i1))
        have EL := Lib.hid (show lastOf cs (j + 1) = c from by simp [lastOf, hc])
        obtain ⟨x, hx⟩ : ∃ x, x = s.extract (lastOf cs j) c := ⟨_, rfl⟩
        rw [← hx] at EJ i2 HLj
        have hxs : x.size ≤ 16 := by omega
        have hyc : (s.extract 0 c).size = c := by simp; omega
        have hsum : y.size + x.size ≤ s.size := by
          have h1 : (y ++ x).size = y.size + x.size := by simp
          rw [HY.out, EJ.out] at h1
          rw [HY.out]
          omega
        have HYX := Lib.hid (show y ++ x = s.extract 0 (lastOf cs (j + 1)) by rw [HY.out, EJ.out, EL.out])
        obtain ⟨bt, ot, rfl, htc⟩ := (HasStrs.of_own HOWN.out).2.lies' HLj.out
        clear hx hyc i1 i2 i3 i4 i5 hc
        go_wp2_with fail
        refine (put_walk _ W.heap.size base g st x HS.out (by omega) (by rw [HTOP.out]; omega)).mono ?_
        rintro _ w5 ⟨m5, fresh, ev, s5, rfl, hrel5, hs5, hb5, hk5⟩
        have HS5 := Lib.hid hs5
        have HB5 := Lib.hid (HB.out.trans hb5)
        have HO5 := Lib.hid (hk5.own HOWN.out hgw (by decide))
        have hcase := hrel5.went (by have := HLEN.out; omega)
        clear hs5 hb5 hk5 htc
        rcases hcase with ⟨rfl, h64⟩ | ⟨rfl, -, hl5, ht5, ⟨m, k5, rfl, hm40, hk50, hc5⟩, -⟩
        · omega
        · have HT5 := Lib.hid hrel5.total
          have HL5 := Lib.hid hl5
          have HTP5 := Lib.hid ht5
          have HC5 := Lib.hid hc5
          clear hl5 ht5 hc5 hrel5
          go_wp2_with fail
          refine (Get_ok _ W.heap.size base g s5 m k5 x HS5.out HC5.out hk50).mono ?_
          rintro _ w6 ⟨rfl, rfl⟩
          obtain ⟨bt', ot', e', htc⟩ := (HasStrs.of_own HO5.out).2.lies' HLj.out
          cases e'
          go_wp2_with fail
          go_roundw
          case rel => exact ⟨j + 1, y ++ x, by omega, by omega, by simp; omega, HYX.out, by go_num, rfl, by simp, ⟨s5, HS5.out, by have := HLEN.out; have := HL5.out; omega, by have := HTOP.out; have := HTP5.out; omega, by rw [HT5.out, HTOT.out]; simp⟩, HO5.out, HB5.out⟩
          case measure => simp [intOf]; omega
      · have hcase : decide (j < n) = false ∨ (decide (j < n) = true ∧ decide ((j : Int) < 40) = false) := by
          by_cases h : j < n
          · exact .inr ⟨decide_eq_true h, decide_eq_false (by omega)⟩
          · exact .inl (decide_eq_false h)
        have hwhole : 40 < n ∨ (n ≤ 40 ∧ y = s) := by
          by_cases h : 40 < n
          · exact .inl h
          · have hjn : j = n := by omega
            refine .inr ⟨by omega, ?_⟩
            rw [HY.out, hjn, HN.out, EN.out]
            apply ByteArray.ext
            simp
        have hex : s.extract 0 y.size = y := by rw [HY.out]; exact extract_whole s _
        have HEX := Lib.hid hex
        have hK := kept_le HS.out.ok
        rw [HTOT.out] at hK
        obtain ⟨K, hKK⟩ : ∃ K, K = keptTo st.C st.C.length := ⟨_, rfl⟩
        rw [← hKK] at hK
        have HKK := Lib.hid hKK
        have q5 : decide (y.size ≤ s.size) = true := decide_eq_true hys
        have q6 : decide (K ≤ y.size) = true := decide_eq_true hK
        clear hgo hex hKK
        rcases hcase with q3 | ⟨q3, q4⟩
        all_goals
          go_wp2_with fail
          refine (sizes_walk _ W.heap.size base g st HS.out (by rw [HTOP.out]; omega)).mono ?_
          rw [total_all, HTOT.out, ← HKK.out]
          rintro _ w5 ⟨rfl, hb5⟩
          have HB5 := Lib.hid (HB.out.trans (hb5.mono HB.out.size))
          clear hb5
          rcases hwhole with hw | ⟨hw, rfl⟩
          · have q7 : decide ((40 : Int) < (n : Int)) = true := decide_eq_true (by omega)
            have hex := HEX.out
            go_wp2_with fail
            go_ret
            exact ⟨rfl, HB5.out⟩
          · have q7 : decide ((40 : Int) < (n : Int)) = false := decide_eq_false (by omega)
            have hex := HEX.out
            go_wp2_with fail
            go_ret
            exact ⟨rfl, HB5.out⟩
  · refine (pieces_long _ _ (by omega)).mono ?_
    rintro e w4 ⟨rfl, rfl⟩
    have q1 : decide ((2000 : Int) < (s.size : Int)) = true := decide_eq_true (by omega)
    go_wp2_with fail
    go_ret
    exact ⟨rfl, HB3.out⟩

end Go.Proofs.Ytnkihdkcmhbhkaa
