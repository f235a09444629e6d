/- The walk of ChunkJoin. -/
import Derived.Test.YtnkihdkcmhbhkaaChunkFact
import Derived.Test.YtnkihdkcmhbhkaaPieces
namespace Go.Proofs.Ytnkihdkcmhbhkaa
open Go.RowKit Chunk

theorem extract_join (s : ByteArray) {a b : Nat} (h : a ≤ b) : s.extract 0 a ++ s.extract a b = s.extract 0 b := by
  apply ByteArray.ext
  rw [ByteArray.data_append]
  simp [Nat.max_eq_right h]

theorem piece_size {s : ByteArray} {cs : List Nat} (hcs : cs = cuts s.data.toList) {k c : Nat} (h : cs[k]? = some c) :
    lastOf cs k < c ∧ (s.extract (lastOf cs k) c).size = c - lastOf cs k ∧ c - lastOf cs k ≤ 16 ∧ c ≤ s.size ∧ (2 ≤ c - lastOf cs k ∨ k + 1 = cs.length) := by
  subst hcs
  obtain ⟨h1, h2, h3, h4⟩ := cuts_inv h
  simp at h2 h4
  refine ⟨h1, by simp; omega, by omega, h2, ?_⟩
  rcases h4 with h4 | h4
  · left; omega
  · right
    have hk : k < (cuts s.data.toList).length := by
      rcases Nat.lt_or_ge k (cuts s.data.toList).length with h' | h'
      · exact h'
      · rw [List.getElem?_eq_none h'] at h; cases h
    rcases Nat.lt_or_ge (k + 1) (cuts s.data.toList).length with h' | h'
    · have h5 := cuts_inv (List.getElem?_eq_getElem h')
      have h6 : lastOf (cuts s.data.toList) (k + 1) = c := by simp [lastOf, h]
      rw [h6] at h5
      simp at h5
      omega
    · omega

set_option maxHeartbeats 1000000 in
theorem join_walk (s : ByteArray) (w : World) (hs : s.size ≤ 140737488351232) :
    Calls Try.prog 5 #[.string s] w fun e w' => e = .returned (.bool true) ∧ Below w.heap.size w w' := by
  go_enter Try.func5, Try.ntmps5
  go_wp2_with fail
  refine (chunkFact_any _).mono ?_
  rintro e w1 ⟨rfl, hb1⟩
  have HB1 := Lib.hid hb1
  clear hb1
  go_wp2_with fail
  by_cases h1 : s.size ≤ 2000
  · refine (pieces_any s _ h1).mono ?_
    rintro _ w2 ⟨v2, rfl, hown2, hb2⟩
    have HB2 := Lib.hid (HB1.out.trans (hb2.mono HB1.out.size))
    obtain ⟨cs, hcs⟩ : ∃ cs, cs = cuts s.data.toList := ⟨_, rfl⟩
    rw [← hcs] at hown2
    obtain ⟨hl, a, cap, rfl, hc1, hc2, hcell⟩ := HasStrs.of_own hown2
    rw [piecesB_length] at hc1 hcell ⊢
    have hlen : cs.length ≤ 2000 := by rw [hcs]; have := cuts_length s.data.toList; simp at this; omega
    have SZ := Lib.hid (show ∀ (k c : Nat), cs[k]? = some c → _ from fun k c h => piece_size hcs h)
    have EN := Lib.hid (show lastOf cs cs.length = s.size from by rw [hcs, cuts_end]; simp)
    obtain ⟨n, hn⟩ : ∃ n, n = cs.length := ⟨_, rfl⟩
    have PG := Lib.hid (show ∀ (k c : Nat), k < n → cs[k]? = some c → (piecesB s cs n)[k]? = some (s.extract (lastOf cs k) c) from fun k c hk h => piecesB_get s hk h)
    rw [← hn] at hc1 hcell hlen ⊢
    have HN := Lib.hid hn
    have HC := Lib.hid hcell
    clear hb2 hown2 hl hcs hn hcell
    go_wp2_with fail
    go_loopw [6, 7] (fun u i wr => ∃ k : Nat, k ≤ n ∧ i = .int .i64 k ∧ u = .string (s.extract 0 (lastOf cs k)) ∧ wr = w2) (fun _ i _ => n - (intOf i).toNat)
    case atStart => exact ⟨0, Nat.zero_le _, rfl, by simp [lastOf]; rfl, rfl⟩
    case round =>
      obtain ⟨k, hk, rfl, rfl, rfl⟩ := hrel
      by_cases hlt : k < n
      · obtain ⟨b, off, rfl, hbx, hcx⟩ := HC.out (by omega)
        obtain ⟨c, hc⟩ : ∃ c, cs[k]? = some c := ⟨_, List.getElem?_eq_getElem (by have := HN.out; omega)⟩
        have hxc := hcx k _ (PG.out k c hlt hc)
        obtain ⟨i1, i2, i3, i4, i5⟩ := SZ.out k c hc
        have EJ := Lib.hid (extract_join s (Nat.le_of_lt i1))
        have EL := Lib.hid (show lastOf cs (k + 1) = c from by simp [lastOf, hc])
        obtain ⟨x, hx⟩ : ∃ x, x = s.extract (lastOf cs k) c := ⟨_, rfl⟩
        obtain ⟨y, hy⟩ : ∃ y, y = s.extract 0 (lastOf cs k) := ⟨_, rfl⟩
        have ysz : y.size ≤ 2000 := by rw [hy]; simp; omega
        rw [← hx] at EJ i2 hxc
        rw [← hy] at EJ ⊢
        have hi6 : x.size ≤ 16 := by omega
        have hi7 : 1 ≤ x.size := by omega
        have HX := Lib.hid hx
        have HY := Lib.hid hy
        have hi5 : 2 ≤ x.size ∨ k + 1 = n := by rcases i5 with h | h; left; omega; right; rw [h, HN.out]
        clear hx hy hc hcx i1 i2 i3 i4 i5
        have q1 : decide ((16 : Int) < (x.size : Int)) = false := decide_eq_false (by omega)
        have q2 : decide ((x.size : Int) < 1) = false := decide_eq_false (by omega)
        rcases hi5 with h5 | h5
        · have q3 : decide ((x.size : Int) < 2) = false := decide_eq_false (by omega)
          go_wp2_with fail
          go_roundw
          case rel => exact ⟨k + 1, by omega, by go_num, by rw [EL.out, EJ.out], by simp⟩
          case measure => simp [intOf]; omega
        · have q4 : decide ((k : Int) + 1 < (n : Int)) = false := decide_eq_false (by omega)
          have h5' : n ≤ k + 1 := by omega
          clear h5
          by_cases h6 : x.size < 2
          · have q3 : decide ((x.size : Int) < 2) = true := decide_eq_true (by omega)
            go_wp2_with fail
            go_roundw
            case rel => exact ⟨k + 1, by omega, by go_num, by rw [EL.out, EJ.out], by simp⟩
            case measure => simp [intOf]; omega
          · have q3 : decide ((x.size : Int) < 2) = false := decide_eq_false (by omega)
            go_wp2_with fail
            go_roundw
            case rel => exact ⟨k + 1, by omega, by go_num, by rw [EL.out, EJ.out], by simp⟩
            case measure => simp [intOf]; omega
      · obtain rfl : k = n := by omega
        have e1 : s.extract 0 (lastOf cs k) = s := by
          rw [HN.out, EN.out]
          apply ByteArray.ext
          simp
        rw [e1]
        clear e1
        go_wp2_with fail
        go_ret
        exact ⟨rfl, HB2.out⟩
  · refine (pieces_long _ _ (by omega)).mono ?_
    rintro e w2 ⟨rfl, rfl⟩
    go_wp2_with fail
    go_ret
    exact ⟨rfl, HB1.out⟩

end Go.Proofs.Ytnkihdkcmhbhkaa
