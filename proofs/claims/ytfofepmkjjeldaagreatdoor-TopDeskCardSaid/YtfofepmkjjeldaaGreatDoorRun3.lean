/- Run at any text; the last line of a text; closed facts. -/
import Derived.Test.YtfofepmkjjeldaaGreatDoorRun2
import Derived.Test.YtfofepmkjjeldaaGreatDoorDeskSaid
import Derived.Test.YtfofepmkjjeldaaGreatDoorRefBook1
namespace Go.Proofs.YtfofepmkjjeldaaGreatDoor
open Go.RowKit

theorem bytes_self (s : ByteArray) : (⟨s.data.toList.toArray⟩ : ByteArray) = s := ByteArray.ext (by simp)
theorem run_text (s : ByteArray) (w : World) (B : Nat) (hB : B ≤ w.heap.size) (he : Env B w) (hh : Hand B w) (hs : s.size ≤ 140737488355328) :
    Calls Tryz.prog 19 #[.string s] w fun e w' => e = .returned (.string ⟨(runT s.data.toList).toArray⟩) ∧ Below w.heap.size w w' := by
  have h := run_walk s.data.toList w B hB he hh (by have : s.data.toList.length = s.size := rfl; omega)
  rwa [bytes_self] at h

theorem runT_small {t : List UInt8} (h : t.length ≤ 3000) : runT t = sessT Bk.new (deskLines t) := by unfold runT; rw [if_neg (by omega)]
theorem fact_waits : runT [119, 97, 105, 116, 115] = [48, 10] := by
  have h0 : deskLines [119, 97, 105, 116, 115] = [lWaits] := by
    obtain ⟨h1, h2⟩ := wholeLines_skip (t := [119, 97, 105, 116, 115]) (by decide)
    unfold deskLines
    rw [h1, h2]
    rfl
  rw [runT_small (by decide), h0]
  show Bk.new.ansT (req lWaits) ++ 10 :: [] = _
  rw [req_waits]
  show Lib.decDigits 0 ++ [10] = _
  rw [Lib.decDigits_one (by decide)]
  rfl
theorem fact_lines : runT [119, 114, 105, 116, 101, 32, 49, 32, 50, 10, 10, 98] = [111, 107, 10, 98, 97, 100, 10, 98, 97, 100, 10] := by
  have e1 : Lib.decDigits 1 = [49] := by rw [Lib.decDigits_one (by decide)]; rfl
  have e2 : Lib.decDigits 2 = [50] := by rw [Lib.decDigits_one (by decide)]; rfl
  have h0 : deskLines [119, 114, 105, 116, 101, 32, 49, 32, 50, 10, 10, 98] = [lWrite 1 2, [], [98]] := by
    have e3 : ([119, 114, 105, 116, 101, 32, 49, 32, 50, 10, 10, 98] : List UInt8) = lWrite 1 2 ++ 10 :: ([] ++ 10 :: [98]) := by
      unfold lWrite
      rw [e1, e2]
      rfl
    rw [e3, deskLines_line (lWrite_feed 1 2), deskLines_line (by simp)]
    obtain ⟨h1, h2⟩ := wholeLines_skip (t := [98]) (by decide)
    unfold deskLines
    rw [h1, h2]
    rfl
  rw [runT_small (by decide), h0]
  show Bk.new.ansT (req (lWrite 1 2)) ++ 10 :: ((Bk.new.ansB (req (lWrite 1 2))).ansT (req []) ++ 10 :: (((Bk.new.ansB (req (lWrite 1 2))).ansB (req [])).ansT (req [98]) ++ 10 :: [])) = _
  rw [req_write (by decide) (by decide)]
  have r1 : req [] = .bad := by
    unfold req
    rw [cutAt_skip (by simp)]
    rfl
  have r2 : req [98] = .bad := by
    unfold req
    rw [cutAt_skip (by decide)]
    rfl
  rw [r1, r2]
  rfl

theorem str_size (l : List UInt8) : (⟨l.toArray⟩ : ByteArray).size = l.length := List.size_toArray

/-- the last line of a text that ends one -/
theorem last_end {p a : List UInt8} (hp : Whole p) {j : Nat} (hj : j ≤ a.length) (ha : (10 : UInt8) ∉ a) (x : ByteArray) (hx : x.data.toList = p ++ (a ++ [10])) (h0 : 0 < p.length + j) (hlt : p.length + j - 1 < x.size) : x[p.length + j - 1] = 10 ↔ j = 0 := by
  obtain ⟨c, hc⟩ : ∃ c, c = x[p.length + j - 1] := ⟨_, rfl⟩
  have h2 : (p ++ (a ++ [10]))[p.length + j - 1]? = some c := by
    rw [← hx, hc]
    exact List.getElem?_eq_getElem _
  rw [← hc]
  clear hc
  constructor
  · intro h
    rw [h] at h2
    refine Classical.byContradiction fun hne => ?_
    rw [List.getElem?_append_right (by omega), List.getElem?_append_left (by omega)] at h2
    exact ha (List.mem_of_getElem? h2)
  · intro hj0
    subst hj0
    rcases hp with rfl | ⟨r, rfl⟩
    · simp at h0
    · rw [List.getElem?_append_left (by omega)] at h2
      simp at h2
      exact h2.symm

theorem last_drop {p q : List UInt8} (x : ByteArray) (hx : x.data.toList = p ++ q) : x.extract p.length x.size = ⟨q.toArray⟩ := by
  apply ByteArray.ext
  apply Array.toList_inj.1
  rw [ByteArray.data_extract, Array.toList_extract]
  have h1 : x.size = p.length + q.length := by
    have : x.data.toList.length = x.size := rfl
    rw [← this, hx, List.length_append]
  simp [hx, h1]

set_option maxRecDepth 100000 in
set_option maxHeartbeats 2000000 in
theorem last_walk (x : ByteArray) (w : World) {p a : List UInt8} (hp : Whole p) (ha : (10 : UInt8) ∉ a) (hx : x.data.toList = p ++ (a ++ [10])) (hs : x.size ≤ 10000000) :
    Calls Tryz.prog 23 #[.string x] w fun e w' => e = .returned (.string ⟨(a ++ [10]).toArray⟩) ∧ w = w' := by
  have hxs : x.size = p.length + a.length + 1 := by
    have : x.data.toList.length = x.size := rfl
    rw [← this, hx]
    simp
    omega
  have HP := Lib.hid hp
  have HA := Lib.hid ha
  have HX := Lib.hid hx
  have HXS := Lib.hid hxs
  obtain ⟨n, hn⟩ : ∃ n, n = p.length := ⟨_, rfl⟩
  obtain ⟨m, hm⟩ : ∃ m, m = a.length := ⟨_, rfl⟩
  rw [← hn, ← hm] at hxs
  have HN := Lib.hid hn
  have HM := Lib.hid hm
  have hi0 : IntKind.i64.wrap ((x.size : Int) - 1) = ((n + m : Nat) : Int) := by rw [IntWalk.i64_in _ (by omega)]; omega
  have hxb : n + m < x.size := by omega
  clear hp ha hx hxs hn hm
  go_enter Tryz.func23, Tryz.ntmps23
  go_wp2_with fail
  go_loop [3] (fun ix => ∃ i : Nat, n ≤ i ∧ i ≤ n + m ∧ ix = .int .i64 (i : Nat)) (fun ix => (intOf ix).toNat)
  case atStart => exact ⟨n + m, by omega, Nat.le_refl _, by first | rfl | rw [hi0] | (congr 1)⟩
  case round =>
    obtain ⟨i, hni, hinm, rfl⟩ := hrel
    clear hi0
    have HF := Lib.hid (last_drop x (p := p) (q := a ++ [10]) HX.out)
    cases i with
    | succ i =>
      have hlt : i < x.size := by omega
      have hend := last_end HP.out (j := i + 1 - n) (by have := HM.out; omega) HA.out x HX.out (by have := HN.out; omega) (by have := HN.out; omega)
      have hidx : p.length + (i + 1 - n) - 1 = i := by have := HN.out; omega
      have hend' : x[i] = 10 ↔ i + 1 - n = 0 := by
        have h2 := hend
        simp only [hidx] at h2
        exact h2
      have HEND := Lib.hid hend'
      clear hend hend' hidx hxb
      have q1 : decide ((0 : Int) < ((i + 1 : Nat) : Int)) = true := decide_eq_true (by omega)
      by_cases hj0 : i + 1 = n
      · have q2 : (((x[i]).toNat : Int) != 10) = false := by rw [HEND.out.2 (by omega)]; rfl
        have HII : Hid (i + 1 = p.length) := Lib.hid (by have := HN.out; omega)
        clear HEND hj0 hni hinm
        go_wp2_with fail
        go_ret
        refine ⟨?_, rfl⟩
        rw [← HF.out, ← HII.out]
        rfl
      · have q2 : (((x[i]).toNat : Int) != 10) = true := bne_iff_ne.2 (fun e => hj0 (by have := HEND.out.1 (UInt8.toNat_inj.1 (by have h : (10 : UInt8).toNat = 10 := rfl; rw [h]; omega)); omega))
        clear HEND
        go_wp2_with fail
        go_round
        case rel => exact ⟨i, by omega, by omega, by first | rfl | (congr 1; omega) | (congr 1; rw [IntWalk.i64_in _ (by omega)]; omega)⟩
        case measure => first | (simp [intOf]; done) | (simp [intOf]; omega)
    | zero =>
      have HPL : Hid (p.length = 0) := Lib.hid (by have := HN.out; omega)
      clear hni hinm hxb
      go_wp2_with fail
      go_ret
      refine ⟨?_, rfl⟩
      have h : x = ⟨(a ++ [10]).toArray⟩ := by rw [← HF.out, HPL.out]; simp
      rw [← h]
      rfl

end Go.Proofs.YtfofepmkjjeldaaGreatDoor
