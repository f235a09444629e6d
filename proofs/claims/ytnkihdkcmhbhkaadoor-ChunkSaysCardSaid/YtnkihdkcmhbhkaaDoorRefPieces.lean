/- The walks of the reference's sum and Pieces. -/
import Derived.Test.YtnkihdkcmhbhkaaDoorCuts
import Derived.Test.YtnkihdkcmhbhkaaDoorPieceMath
import Derived.Test.YtnkihdkcmhbhkaaDoorRefMath
import Derived.Test.YtnkihdkcmhbhkaaDoorPieces
namespace Go.Proofs.YtnkihdkcmhbhkaaDoor
open Go.RowKit Chunk


theorem sum_num' (S c : Nat) : Value.int .i64 ((3 * (S : Int) + (c : Int)) % 251) = .int .i64 (((3 * S + c) % 251 : Nat) : Int) := by
  congr 1

set_option maxHeartbeats 400000 in
theorem sum_any (s : ByteArray) (w : World) (hs : s.size ≤ 140737488351232) :
    Calls Tryd.prog 22 #[.string s] w fun e w' => e = .returned (.int .i64 (refSum s.data.toList : Nat)) ∧ w = w' := by
  obtain ⟨t, ht⟩ : ∃ t, t = s.data.toList := ⟨_, rfl⟩
  have hsz : t.length = s.size := by rw [ht]; simp
  rw [← ht]
  have HT := Lib.hid ht
  have HSZ := Lib.hid hsz
  clear ht hsz
  obtain ⟨lo, hlo, hlo1⟩ : ∃ lo : Nat, lo = s.size - 4 ∧ lo ≤ s.size := ⟨_, rfl, by omega⟩
  by_cases h4 : s.size < 4
  all_goals
    go_enter Tryd.func22, Tryd.ntmps22
    go_wp2
    have HLO := Lib.hid hlo
    clear hlo
    go_loop [3, 5] (fun u i => ∃ k : Nat, lo ≤ k ∧ k ≤ s.size ∧ i = .int .i64 k ∧ u = .int .i64 (sumB t lo k : Nat)) (fun _ i => s.size - (intOf i).toNat)
    case atStart =>
      refine ⟨lo, Nat.le_refl _, hlo1, ?_, by rw [sumB_start]; rfl⟩
      have := HLO.out
      congr 1
      omega
    case round =>
      obtain ⟨k, hk1, hk2, rfl, rfl⟩ := hrel
      obtain ⟨S, hS⟩ : ∃ S, S = sumB t lo k := ⟨_, rfl⟩
      have hS1 : S < 251 := by rw [hS]; exact sumB_lt ..
      rw [← hS]
      have HS := Lib.hid hS
      clear hS
      by_cases hlt : k < s.size
      · have hc : s[k].toNat < 256 := s[k].toNat_lt
        go_wp2
        go_round
        case rel =>
          refine ⟨k + 1, by omega, by omega, by go_num, ?_⟩
          rw [sumB_step t lo k s[k] hk1 (byte_at HT.out hlt), ← HS.out]
          rw [Nat.mul_comm]
          exact sum_num' _ _
        case measure => simp [intOf]; omega
      · obtain rfl : k = s.size := by omega
        go_wp2
        go_ret
        refine ⟨?_, rfl⟩
        unfold refSum
        rw [HS.out, HSZ.out, HLO.out]
        rfl


theorem extract_min (d : Array UInt8) (a b : Nat) : d.extract a b = d.extract a (min b d.size) := by
  apply Array.ext
  · simp
  · intros; simp

/-- what the reference holds ahead of a round: k pieces are cut off -/
def RefRel (w wr : World) (s : ByteArray) (cs : List Nat) (k : Nat) (r : ByteArray) (v : Value) : Prop :=
  k ≤ cs.length ∧ r.data.toList = s.data.toList.drop (lastOf cs k) ∧ (∀ a b, r.extract a b = s.extract (lastOf cs k + a) (min (lastOf cs k + b) s.size)) ∧ r.size + lastOf cs k = s.size ∧
    wr.ownsRow w.heap.size 9 1 v k (strsV (piecesB s cs k)) ∧ Below w.heap.size w wr

theorem refRel_step {w w1 : World} {s : ByteArray} {cs : List Nat} {k c n : Nat} {r : ByteArray} {v : Value} (hcs : cs[k]? = some c) (hn : lastOf cs k + n = c) (hc : c ≤ s.size)
    (he : ∀ a b, r.extract a b = s.extract (lastOf cs k + a) (min (lastOf cs k + b) s.size)) (hsz : r.size + lastOf cs k = s.size)
    (hown : w1.ownsRow w.heap.size 9 1 v (k + 1) (strsV (piecesB s cs k) ++ [.string (r.extract 0 n)])) (hb : Below w.heap.size w w1) :
    RefRel w w1 s cs (k + 1) (r.extract n r.size) v := by
  have hk : k < cs.length := by
    rcases Nat.lt_or_ge k cs.length with h | h
    · exact h
    · rw [List.getElem?_eq_none h] at hcs; cases hcs
  have hl : lastOf cs (k + 1) = c := by simp [lastOf, hcs]
  have e1 : r.extract n r.size = s.extract c s.size := by
    rw [he]
    congr 1
    omega
  refine ⟨by omega, ?_, ?_, ?_, ?_, hb⟩
  · rw [e1, hl]; simp [List.take_of_length_le]
  · intro a b
    rw [e1, hl]
    apply ByteArray.ext
    simp
    try (congr 1; omega)
  · rw [e1, hl]; simp; omega
  · rw [piecesB_step s hcs]
    have : r.extract 0 n = s.extract (lastOf cs k) c := by
      rw [he]
      congr 1
      omega
    rw [this] at hown
    simpa [strsV] using hown

set_option maxHeartbeats 1000000 in
theorem refPieces_any (s : ByteArray) (w : World) (hs : s.size ≤ 2000) :
    Calls Tryd.prog 6 #[.string s] w fun e w' => ∃ v, e = .returned v ∧
      w'.ownsRow w.heap.size 9 1 v (cuts s.data.toList).length (strsV (piecesB s (cuts s.data.toList) (cuts s.data.toList).length)) ∧ Below w.heap.size w w' := by
  obtain ⟨cs, hcs⟩ : ∃ cs, cs = cuts s.data.toList := ⟨_, rfl⟩
  have HCS := Lib.hid hcs
  have hlen : cs.length ≤ 2000 := by rw [hcs]; have := cuts_length s.data.toList; simp at this; omega
  rw [← hcs]
  clear hcs
  go_enter Tryd.func6, Tryd.ntmps6
  go_wp2_with fail
  go_loopw [0, 3] (fun t v wr => ∃ k r, t = .string r ∧ RefRel w wr s cs k r v) (fun t _ _ => match t with | .string r => r.size | _ => 0)
  case atStart => exact ⟨0, s, rfl, Nat.zero_le _, by simp [lastOf], fun a b => by apply ByteArray.ext; simp [lastOf]; exact extract_min _ _ _, by simp [lastOf], World.ownsRow_nil .., Below.refl ..⟩
  case round =>
    obtain ⟨k, r, rfl, hk, hr, he, hsz, hown, hb⟩ := hrel
    have HOWN := Lib.hid hown
    have HB := Lib.hid hb
    have HR := Lib.hid hr
    have HE := Lib.hid he
    have HSZ := Lib.hid hsz
    have hrs : r.size ≤ 2000 := by omega
    clear hown hb hr he
    by_cases h0 : 0 < r.size
    · have hkl : k < cs.length := by have := HCS.out; subst this; exact cuts_more hk (by simp; omega)
      obtain ⟨c, hc⟩ : ∃ c, cs[k]? = some c := ⟨_, List.getElem?_eq_getElem hkl⟩
      have hcb : lastOf cs k < c ∧ c ≤ s.size ∧ c ≤ lastOf cs k + 16 := by have := HCS.out; subst this; have := cuts_inv hc; simp at this; omega
      have GO := Lib.hid (show ∀ n, 1 ≤ n → lastOf cs k + n < c → n < r.size ∧ n < 16 ∧ (n < 2 ∨ 0 < refSum (r.extract 0 n).data.toList % 8) from fun n h1 h2 => by
        have e := HCS.out
        have e2 := HR.out
        subst e
        have := ref_go hc h1 h2
        simp at this
        have e3 : (r.extract 0 n).data.toList = (s.data.toList.drop (lastOf (cuts s.data.toList) k)).take n := by rw [← e2]; simp
        rw [e3]
        omega)
      have ST := Lib.hid (show ∀ n, 1 ≤ n → lastOf cs k + n = c → r.size ≤ n ∨ (n < r.size ∧ 16 ≤ n) ∨ (n < r.size ∧ n < 16 ∧ 2 ≤ n ∧ refSum (r.extract 0 n).data.toList % 8 = 0) from fun n h1 h2 => by
        have e := HCS.out
        have e2 := HR.out
        subst e
        have := ref_stop hc h1 h2
        simp at this
        have e3 : (r.extract 0 n).data.toList = (s.data.toList.drop (lastOf (cuts s.data.toList) k)).take n := by rw [← e2]; simp
        rw [e3]
        omega)
      obtain ⟨f, hf⟩ : ∃ f, f = lastOf cs k := ⟨_, rfl⟩
      rw [← hf] at hcb hsz
      have HF := Lib.hid hf
      have HC := Lib.hid hc
      obtain ⟨hc1, hc2, hc3⟩ := hcb
      have HN1 := Lib.hid (show k + 1 ≤ maxLen from by unfold maxLen; omega)
      have HN2 := Lib.hid (show (k + 1) * 16 ≤ 140737488355328 from by omega)
      have hsz1 : r.size + f ≤ s.size := by omega
      have hsz2 : s.size ≤ r.size + f := by omega
      clear hf hc hsz
      go_wp2_with fail
      go_loop [4] (fun n => ∃ m : Nat, 1 ≤ m ∧ f + m ≤ c ∧ n = .int .i64 m) (fun n => 20 - (intOf n).toNat)
      case atStart => exact ⟨1, by omega, by omega, rfl⟩
      case round =>
        obtain ⟨m, hm1, hm2, rfl⟩ := hrel
        by_cases hm : f + m < c
        · obtain ⟨g1, g2, g3⟩ := GO.out m hm1 (by rw [← HF.out]; exact hm)
          have q1 : decide (m < r.size) = true := decide_eq_true g1
          have q2 : decide ((m : Int) < 16) = true := decide_eq_true (by omega)
          by_cases g4 : m < 2
          · have q3 : decide ((m : Int) < 2) = true := decide_eq_true (by omega)
            clear g3
            go_wp2_with fail
            go_round
            case rel => exact ⟨m + 1, by omega, by omega, by go_num⟩
            case measure => simp [intOf]; omega
          · have q3 : decide ((m : Int) < 2) = false := decide_eq_false (by omega)
            have G3 := Lib.hid (show 0 < refSum (r.extract 0 m).data.toList % 8 from by omega)
            clear g3
            go_wp2_with fail
            refine (sum_any (r.extract 0 m) _ (by simp; omega)).mono ?_
            rintro e w' ⟨rfl, rfl⟩
            obtain ⟨S, hS⟩ : ∃ S, S = refSum (r.extract 0 m).data.toList := ⟨_, rfl⟩
            have hS1 : S < 251 := by rw [hS]; exact sumB_lt ..
            have q4 : ((S : Int) % 8 != 0) = true := by have := G3.out; rw [← hS] at this; rw [bne_iff_ne]; omega
            rw [← hS]
            clear hS
            go_wp2_with fail
            go_round
            case rel => exact ⟨m + 1, by omega, by omega, by go_num⟩
            case measure => simp [intOf]; omega
        · obtain g := ST.out m hm1 (by rw [← HF.out]; omega)
          have EC := Lib.hid (show f + m = c from by omega)
          rcases g with g | ⟨g1, g2⟩ | ⟨g1, g2, g3, g4⟩
          · have q1 : decide (m < r.size) = false := decide_eq_false (by omega)
            go_wp2_with (at_builtin; go_must (refine wpList_push (.string ByteArray.empty) 16 HOWN.out Tryd.underlying23 infoStr rfl rfl rfl rfl HN1.out HN2.out HB.out.size ?_; intro v' w5 hown1 hbel1 _; have HO1 := Lib.hid hown1; have HB1 := Lib.hid (HB.out.trans hbel1); clear hown1 hbel1))
            go_roundw
            case rel => exact ⟨k + 1, _, rfl, refRel_step HC.out (by rw [← HF.out]; exact EC.out) hc2 HE.out HSZ.out HO1.out HB1.out⟩
            case measure => simp; omega
          · have q1 : decide (m < r.size) = true := decide_eq_true (by omega)
            have q2 : decide ((m : Int) < 16) = false := decide_eq_false (by omega)
            go_wp2_with (at_builtin; go_must (refine wpList_push (.string ByteArray.empty) 16 HOWN.out Tryd.underlying23 infoStr rfl rfl rfl rfl HN1.out HN2.out HB.out.size ?_; intro v' w5 hown1 hbel1 _; have HO1 := Lib.hid hown1; have HB1 := Lib.hid (HB.out.trans hbel1); clear hown1 hbel1))
            go_roundw
            case rel => exact ⟨k + 1, _, rfl, refRel_step HC.out (by rw [← HF.out]; exact EC.out) hc2 HE.out HSZ.out HO1.out HB1.out⟩
            case measure => simp; omega
          · have q1 : decide (m < r.size) = true := decide_eq_true (by omega)
            have q2 : decide ((m : Int) < 16) = true := decide_eq_true (by omega)
            have q3 : decide ((m : Int) < 2) = false := decide_eq_false (by omega)
            have G4 := Lib.hid g4
            clear g4
            go_wp2_with fail
            refine (sum_any (r.extract 0 m) _ (by simp; omega)).mono ?_
            rintro e w' ⟨rfl, rfl⟩
            obtain ⟨S, hS⟩ : ∃ S, S = refSum (r.extract 0 m).data.toList := ⟨_, rfl⟩
            have hS1 : S < 251 := by rw [hS]; exact sumB_lt ..
            have q4 : ((S : Int) % 8 != 0) = false := by have := G4.out; rw [← hS] at this; rw [bne_eq_false_iff_eq]; omega
            rw [← hS]
            clear hS
            go_wp2_with (at_builtin; go_must (refine wpList_push (.string ByteArray.empty) 16 HOWN.out Tryd.underlying23 infoStr rfl rfl rfl rfl HN1.out HN2.out HB.out.size ?_; intro v' w5 hown1 hbel1 _; have HO1 := Lib.hid hown1; have HB1 := Lib.hid (HB.out.trans hbel1); clear hown1 hbel1))
            go_roundw
            case rel => exact ⟨k + 1, _, rfl, refRel_step HC.out (by rw [← HF.out]; exact EC.out) hc2 HE.out HSZ.out HO1.out HB1.out⟩
            case measure => simp; omega
    · have hk' : k = cs.length := by have := HCS.out; subst this; exact cuts_done hk (by simp; omega)
      go_wp2_with fail
      go_ret
      exact ⟨_, rfl, by rw [← hk']; exact HOWN.out, HB.out⟩

end Go.Proofs.YtnkihdkcmhbhkaaDoor
