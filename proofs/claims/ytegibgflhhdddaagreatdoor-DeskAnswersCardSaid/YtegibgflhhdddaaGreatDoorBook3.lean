/- The book puts a line down. -/
import Derived.Test.YtegibgflhhdddaaGreatDoorBook1
import Derived.Test.YtegibgflhhdddaaGreatDoorBook2
import Derived.Deep.RegionHeld3
namespace Go.Proofs.YtegibgflhhdddaaGreatDoor
open Go.RowKit

def wordsOf (L : List Int) : List UInt8 := (L.map fun n => 32 :: Lib.decDigits n.toNat).flatten
theorem wordsOf_take (L : List Int) (k : Nat) (x : Int) (h : L[k]? = some x) : wordsOf (L.take (k + 1)) = wordsOf (L.take k) ++ 32 :: Lib.decDigits x.toNat := by
  unfold wordsOf
  rw [List.take_succ_eq_append_getElem (List.getElem?_eq_some_iff.1 h).1, (List.getElem?_eq_some_iff.1 h).2]
  simp

theorem HasInts.liesB {w : World} {a : Option Addr} {n cap : Nat} {L : List Int} (h : HasInts w (.slice a n cap) L) {j : Nat} {x : Int} (hx : L[j]? = some x) :
    ∃ b off, a = some ⟨b, off, none⟩ ∧ w.cell? ⟨b, off + j, none⟩ = some (.int .i64 x) := by
  obtain ⟨a', cap', h1, -, -, h4⟩ := h
  cases h1
  obtain ⟨b, off, h5, -, h6⟩ := h4 (Nat.lt_of_le_of_lt (Nat.zero_le _) (List.getElem?_eq_some_iff.1 hx).1)
  exact ⟨b, off, h5, h6 j x hx⟩

theorem two_below {wr w5 w6 : World} (hb5 : Below wr.drew.heap.size wr.drew w5) (hb6 : Below w5.heap.size w5 w6) : Below wr.heap.size wr w6 := by
  have h1 : Below wr.heap.size wr w5 := (Below.refl wr.heap.size wr).drew.trans hb5
  exact h1.trans (hb6.mono h1.size)

theorem line_of (s : ByteArray) (l : List UInt8) (hs : s.data.toList = l) : (s ++ ⟨#[32]⟩ ++ ⟨(Lib.decDigits (wsum s.data.toList)).toArray⟩ ++ ⟨#[10]⟩ : ByteArray).data.toList = lineOf l ++ [10] := by
  rw [hs]
  simp [lineOf, hs]

set_option maxHeartbeats 2000000 in
theorem down_walk (w : World) (B g : Nat) (b : Bk) (word : ByteArray) (v : Value) (L : List Int) (hb : BookIs w g b) (hB : B ≤ g) (hp : Pow B w) (hv : HasInts w v L) (hL : L.length ≤ 2) (h01 : ∀ x ∈ L, 0 ≤ x ∧ x ≤ 1000) (hw : word.size ≤ 10)
    (htext : b.text.length ≤ 100000) (hmany : b.T.length ≤ 60) :
    Calls Tryz.prog 55 #[.pointer (some ⟨g, 0, none⟩), .string word, v] w fun e w' => e = .returned (.tuple #[]) ∧ BookIs w' g ⟨b.B, b.G, b.T ++ [lineOf (word.data.toList ++ wordsOf L)]⟩ ∧ BkFrame w w' g := by
  have HB := Lib.hid hb
  have HP := Lib.hid hp
  have HV := Lib.hid hv
  have H01 := Lib.hid h01
  obtain ⟨a, n, cap, rfl, hn⟩ : ∃ a n cap, v = .slice a n cap ∧ n = L.length := by
    obtain ⟨a, cap, h, -⟩ := hv
    exact ⟨a, _, cap, h, rfl⟩
  rw [← hn] at hL
  have HN := Lib.hid hn
  have hglt := hb.lt
  clear hb hp hv h01 hn
  go_enter Tryz.func55, Tryz.ntmps55
  go_wp2_with fail
  go_loopw [1, 10] (fun wd i wr => ∃ (k : Nat) (s : ByteArray), k ≤ n ∧ i = .int .i64 k ∧ wd = .string s ∧ s.data.toList = word.data.toList ++ wordsOf (L.take k) ∧ s.size ≤ word.size + 5 * k ∧ Below w.heap.size w wr) (fun _ i _ => n - (intOf i).toNat)
  case atStart => exact ⟨0, word, Nat.zero_le _, rfl, rfl, by simp [wordsOf], by omega, Below.refl _ _⟩
  case round =>
    obtain ⟨k, s, hk, rfl, rfl, hs, hsz, hbl⟩ := hrel
    have HS := Lib.hid hs
    have HBL := Lib.hid hbl
    clear hs hbl
    by_cases hlt : k < n
    · have q1 : decide (k < n) = true := decide_eq_true hlt
      obtain ⟨x, hx⟩ : ∃ x, L[k]? = some x := ⟨_, List.getElem?_eq_getElem (by have := HN.out; omega)⟩
      obtain ⟨bb, oo, rfl, hc⟩ := (HV.out.below HBL.out).liesB hx
      have hx01 := H01.out x (List.mem_of_getElem? hx)
      have HX := Lib.hid hx
      clear hx
      go_wp2_with fail
      refine (itoa_walk x wr B (HP.out.on (HBL.out.mono (by omega))) (by omega) (by omega)).mono ?_
      rintro _ w2 ⟨rfl, hb2⟩
      have HB2 := Lib.hid (HBL.out.trans (hb2.mono HBL.out.size))
      clear hb2
      have hd4 := dec_len4 (u := x.toNat) (by omega)
      go_wp2_with fail
      go_roundw
      case rel => exact ⟨k + 1, _, by omega, by go_num, rfl, by rw [wordsOf_take L k x HX.out, ← List.append_assoc, ← HS.out]; simp, by
        have e1 : (⟨#[32]⟩ : ByteArray).size = 1 := rfl
        have e2 : (⟨(Lib.decDigits x.toNat).toArray⟩ : ByteArray).size = (Lib.decDigits x.toNat).length := List.size_toArray
        rw [ByteArray.size_append, ByteArray.size_append, e1, e2]; omega, HB2.out⟩
      case measure => simp [intOf]; omega
    · obtain rfl : k = n := by omega
      have q1 : decide (k < k) = false := decide_eq_false hlt
      have hsz' : s.size ≤ 20 := by omega
      have hbk := HB.out.later HBL.out
      have HBK := Lib.hid hbk
      have HPR := Lib.hid (HP.out.on (HBL.out.mono (by omega)))
      obtain ⟨m, hm⟩ : ∃ m, m = wsum s.data.toList := ⟨_, rfl⟩
      have hm4 : m < 9973 := by rw [hm]; exact wsum_lt _
      have hd5 := dec_len4 (u := m) (by omega)
      have HM := Lib.hid hm
      clear hbk hm
      have HSZ := Lib.hid (show (s ++ ⟨#[32]⟩ ++ ⟨(Lib.decDigits m).toArray⟩ ++ ⟨#[10]⟩ : ByteArray).size ≤ 26 from by
        have e1 : (⟨#[32]⟩ : ByteArray).size = 1 := rfl
        have e2 : (⟨#[10]⟩ : ByteArray).size = 1 := rfl
        have e3 : (⟨(Lib.decDigits m).toArray⟩ : ByteArray).size = (Lib.decDigits m).length := List.size_toArray
        rw [ByteArray.size_append, ByteArray.size_append, ByteArray.size_append, e1, e2, e3]; omega)
      have HLN := Lib.hid (line_of s _ HS.out)
      rw [← HM.out] at HLN
      have hf1 : ¬ 9223372036854775807 < s.size + 1 := by omega
      have hf2 : ¬ 9223372036854775807 < s.size + 1 + (Lib.decDigits m).length := by omega
      have hf3 : ¬ 9223372036854775807 < s.size + 1 + (Lib.decDigits m).length + 1 := by omega
      go_wp2_with fail
      go_region_held3 (fun _ => True) (trivial)
        (first
          | (go_at_call 71; refine (sum_walk s _ (by omega)).mono ?_; rw [← HM.out]; rintro _ w5 ⟨rfl, hb5⟩)
          | (go_at_call 38; refine (itoaN_walk m _ B ((HPR.out.on ((Below.refl wr.heap.size wr).drew.mono (by have := HBL.out.size; omega))).on (hb5.mono (by simp; have := HBL.out.size; omega))) (by omega)).mono ?_; rintro _ w6 ⟨rfl, hb6⟩)
          | (go_at_call 8; refine (bld_write _ 51 12 (g + 1) g 9 b.text _ (HBK.out.later (two_below hb5 hb6)).bld (by have := HSZ.out; omega)).mono ?_; rintro _ w7 ⟨rfl, hbw, hfr⟩))
      all_goals
        have h6 := HBK.out.later (two_below hb5 hb6)
        have K11 : w7.cell? ⟨g, 11, none⟩ = some (.int .i64 (b.T.length : Nat)) := (hfr.cells 11 (by decide) (by decide)).trans h6.many
        have F11 : w7.frozen? ⟨g, 11, none⟩ = false := (hfr.frozen 11).trans (h6.free 11)
        rw [HLN.out] at hbw
        have h7 := h6.built hfr hbw
        have h8 := h7.1.counted (b.T.length + 1)
        have HF : Hid (BkFrame w (w7.setCell ⟨g, 11, none⟩ (.int .i64 ((b.T.length + 1 : Nat) : Int))) g) := Lib.hid (((HB.out.frame HBL.out).trans (HBK.out.frame (two_below hb5 hb6))).trans (h7.2.trans h8.2))
        have H8 := Lib.hid h8.1
        clear h6 h7 h8 hbw hfr hb5 hb6
        go_wp2_with fail
        exact bodyPost_end (results_none rfl _ _ _) rfl ⟨rfl, by
          have h := H8.out
          have e : ((b.T ++ [lineOf (word.data.toList ++ wordsOf L)]).map (· ++ [10])).flatten = b.text ++ (lineOf (word.data.toList ++ wordsOf (L.take k)) ++ [10]) := by rw [text_snoc, List.take_of_length_le (by have := HN.out; omega)]; rfl
          have e2 : (b.T ++ [lineOf (word.data.toList ++ wordsOf L)]).length = b.T.length + 1 := by simp
          show BookAt _ g b.B b.G ((b.T ++ [lineOf (word.data.toList ++ wordsOf L)]).map (· ++ [10])).flatten (b.T ++ [lineOf (word.data.toList ++ wordsOf L)]).length
          rw [e, e2]
          exact h, HF.out⟩

end Go.Proofs.YtegibgflhhdddaaGreatDoor
