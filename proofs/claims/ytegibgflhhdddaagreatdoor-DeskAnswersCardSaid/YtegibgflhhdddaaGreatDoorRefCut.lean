/- The reference cuts a text at a byte. -/
import Derived.Test.YtegibgflhhdddaaGreatDoorRefNum
namespace Go.Proofs.YtegibgflhhdddaaGreatDoor
open Go.RowKit

theorem infoStrC : (Tryz.prog.info? 9).map (fun i => (i.zero, i.size, i.bytes)) = some (some (.string ByteArray.empty), 1, 16) := by kernel_rfl

/-- where the cut stands: the pieces so far, where the next one begins, how far it was looked -/
def CutMid (s : ByteArray) (c : UInt8) (P : List ByteArray) (f i : Nat) : Prop :=
  (i ≤ s.size ∧ f ≤ i ∧ cutAt c s.data.toList = P.map (·.data.toList) ++ cutAt c (s.data.toList.drop f) ∧ c ∉ (s.data.toList.drop f).take (i - f)) ∨
  (i = s.size + 1 ∧ cutAt c s.data.toList = P.map (·.data.toList))

theorem extract_mid (s : ByteArray) (f i : Nat) : (s.extract f i).data.toList = (s.data.toList.drop f).take (i - f) := by
  rw [ByteArray.data_extract, Array.toList_extract]
  first | done | simp [List.extract_eq_take_drop]
theorem CutMid.start (s : ByteArray) (c : UInt8) : CutMid s c [] 0 0 := .inl ⟨Nat.zero_le _, Nat.le_refl _, rfl, by simp⟩
theorem CutMid.skip {s : ByteArray} {c : UInt8} {P : List ByteArray} {f i : Nat} (h : CutMid s c P f i) (hi : i < s.size) (hc : s[i] ≠ c) : CutMid s c P f (i + 1) := by
  have hl : s.data.toList.length = s.size := rfl
  rcases h with ⟨h1, h2, h3, h4⟩ | ⟨h1, -⟩
  · refine .inl ⟨hi, by omega, h3, fun hm => ?_⟩
    rw [show i + 1 - f = (i - f) + 1 by omega, List.take_succ_eq_append_getElem (by rw [List.length_drop]; omega)] at hm
    rcases List.mem_append.1 hm with hm | hm
    · exact h4 hm
    · have e := List.mem_singleton.1 hm
      rw [List.getElem_drop] at e
      have hidx : f + (i - f) = i := by omega
      simp only [hidx] at e
      exact hc e.symm
  · omega
theorem CutMid.piece {s : ByteArray} {c : UInt8} {P : List ByteArray} {f i : Nat} (h : CutMid s c P f i) (hi : i < s.size) (hc : s[i] = c) : CutMid s c (P ++ [s.extract f i]) (i + 1) (i + 1) := by
  have hl : s.data.toList.length = s.size := rfl
  rcases h with ⟨h1, h2, h3, h4⟩ | ⟨h1, -⟩
  · refine .inl ⟨hi, Nat.le_refl _, ?_, by simp⟩
    have e : s.data.toList.drop f = (s.data.toList.drop f).take (i - f) ++ c :: s.data.toList.drop (i + 1) := by
      have h5 := (List.take_append_drop (i - f) (s.data.toList.drop f)).symm
      rw [List.drop_drop, show f + (i - f) = i by omega, List.drop_eq_getElem_cons (l := s.data.toList) (i := i) (by rw [hl]; exact hi)] at h5
      have h6 : s.data.toList[i] = c := hc
      rw [h6] at h5
      exact h5
    rw [h3, e, cutAt_append h4, List.map_append, List.append_assoc]
    congr 1
    simp only [List.map_cons, List.map_nil, extract_mid, List.cons_append, List.nil_append]
  · omega
theorem CutMid.last {s : ByteArray} {c : UInt8} {P : List ByteArray} {f : Nat} (h : CutMid s c P f s.size) : CutMid s c (P ++ [s.extract f s.size]) (s.size + 1) (s.size + 1) := by
  have hl : s.data.toList.length = s.size := rfl
  rcases h with ⟨h1, h2, h3, h4⟩ | ⟨h1, -⟩
  · refine .inr ⟨rfl, ?_⟩
    have e : (s.data.toList.drop f).take (s.size - f) = s.data.toList.drop f := List.take_of_length_le (by rw [List.length_drop]; omega)
    rw [e] at h4
    rw [h3, cutAt_skip h4, List.map_append]
    simp only [List.map_cons, List.map_nil, extract_mid, e]
  · omega

set_option maxRecDepth 100000 in
set_option maxHeartbeats 4000000 in
theorem refcut_walk (s : ByteArray) (c : UInt8) (w : World) (hs : s.size ≤ 1000000) :
    Calls Tryz.prog 26 #[.string s, .int .u8 (c.toNat : Int)] w fun e w' => (∃ v L, e = .returned v ∧ w'.ownsRow w.heap.size 9 1 v L.length (strsV L) ∧ L.map (·.data.toList) = cutAt c s.data.toList ∧ L.length ≤ s.size + 1) ∧ Below w.heap.size w w' := by
  go_enter Tryz.func26, Tryz.ntmps26
  go_wp2_with fail
  go_loopw [5, 6, 7] (fun v fx ix wr => ∃ (i f : Nat) (P : List ByteArray), i ≤ s.size + 1 ∧ f ≤ i ∧ P.length ≤ i ∧ ix = .int .i64 (i : Nat) ∧ fx = .int .i64 (f : Nat) ∧ CutMid s c P f i ∧ wr.ownsRow w.heap.size 9 1 v P.length (strsV P) ∧ Below w.heap.size w wr) (fun _ _ ix _ => s.size + 1 - (intOf ix).toNat)
  case atStart => exact ⟨0, 0, [], Nat.zero_le _, Nat.le_refl _, Nat.le_refl _, rfl, rfl, CutMid.start s c, World.ownsRow_nil .., Below.refl _ _⟩
  case round =>
    obtain ⟨i, f, P, hi, hf, hP, rfl, rfl, hm, hown, hb⟩ := hrel
    have HM := Lib.hid hm
    have HOWN := Lib.hid hown
    have HB := Lib.hid hb
    clear hm hown hb
    by_cases hle : i ≤ s.size
    · have q1 : decide (i ≤ s.size) = true := decide_eq_true hle
      have HM1 := Lib.hid (show P.length + 1 ≤ maxLen from by unfold maxLen; omega)
      have HM2 := Lib.hid (show (P.length + 1) * 16 ≤ 140737488355328 from by omega)
      have s1 : (i : Int) ≤ (s.size : Int) := by omega
      have s2 : (f : Int) ≤ (i : Int) := by omega
      by_cases he : i = s.size
      · have q2 : ((i : Int) == (s.size : Int)) = true := beq_iff_eq.2 (by omega)
        have HE := Lib.hid he
        clear he
        go_wp2_with (at_builtin; go_must (refine wpList_push (.string ByteArray.empty) 16 HOWN.out Tryz.underlying59 infoStrC rfl rfl rfl rfl HM1.out HM2.out HB.out.size ?_; intro v' w7 hown1 hbel1 _; have HO7 := Lib.hid hown1; have HC7 := Lib.hid (HB.out.trans hbel1); clear hown1 hbel1))
        go_roundw
        case rel =>
          have h1 := HM.out
          rw [HE.out] at h1
          refine ⟨i + 1, i + 1, P ++ [s.extract f i], by omega, by omega, by simp; omega, by go_num, by go_num, by rw [HE.out]; exact h1.last, ?_, HC7.out⟩
          have h := HO7.out
          simp only [strsV, List.map_append, List.map_cons, List.map_nil, List.length_append, List.length_cons, List.length_nil] at h ⊢
          exact h
        case measure => simp [intOf]; omega
      · have q2 : ((i : Int) == (s.size : Int)) = false := beq_eq_false_iff_ne.2 (by omega)
        have hlt : i < s.size := by omega
        by_cases hc : s[i] = c
        · have q3 : (((s[i]).toNat : Int) == (c.toNat : Int)) = true := by rw [hc]; exact beq_iff_eq.2 rfl
          have HC := Lib.hid hc
          clear hc he
          go_wp2_with (at_builtin; go_must (refine wpList_push (.string ByteArray.empty) 16 HOWN.out Tryz.underlying59 infoStrC rfl rfl rfl rfl HM1.out HM2.out HB.out.size ?_; intro v' w7 hown1 hbel1 _; have HO7 := Lib.hid hown1; have HC7 := Lib.hid (HB.out.trans hbel1); clear hown1 hbel1))
          go_roundw
          case rel =>
            refine ⟨i + 1, i + 1, P ++ [s.extract f i], by omega, by omega, by simp; omega, by go_num, by go_num, HM.out.piece hlt HC.out, ?_, HC7.out⟩
            have h := HO7.out
            simp only [strsV, List.map_append, List.map_cons, List.map_nil, List.length_append, List.length_cons, List.length_nil] at h ⊢
            exact h
          case measure => simp [intOf]; omega
        · have q3 : (((s[i]).toNat : Int) == (c.toNat : Int)) = false := beq_eq_false_iff_ne.2 (fun e => hc (UInt8.toNat_inj.1 (by omega)))
          have HC := Lib.hid hc
          clear hc he
          go_wp2_with fail
          go_roundw
          case rel => exact ⟨i + 1, f, P, by omega, by omega, by omega, by go_num, rfl, HM.out.skip hlt HC.out, HOWN.out, HB.out⟩
          case measure => simp [intOf]; omega
    · obtain rfl : i = s.size + 1 := by omega
      have q1 : decide (s.size + 1 ≤ s.size) = false := decide_eq_false (by omega)
      have HF : Hid (P.map (·.data.toList) = cutAt c s.data.toList) := Lib.hid (by
        rcases HM.out with ⟨h1, -⟩ | ⟨-, h2⟩
        · omega
        · exact h2.symm)
      go_wp2_with fail
      go_ret
      exact ⟨⟨_, P, rfl, HOWN.out, HF.out, hP⟩, HB.out⟩

end Go.Proofs.YtegibgflhhdddaaGreatDoor
