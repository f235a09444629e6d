/- The last line of a text, for the laws of the whole. -/
import Derived.Test.YtfofepmkjjeldaaGreatDoorRun3
namespace Go.Proofs.YtfofepmkjjeldaaGreatDoor
open Go.RowKit

set_option maxRecDepth 100000 in
set_option maxHeartbeats 2000000 in
theorem tlast_walk (x : ByteArray) (w : World) {p a : List UInt8} (hp : Whole p) (ha : (10 : UInt8) ∉ a) (hx : x.data.toList = p ++ (a ++ [10])) (hs : x.size ≤ 10000000) :
    Calls Tryz.prog 25 #[.string x] w fun e w' => e = .returned (.string ⟨(a ++ [10]).toArray⟩) ∧ w = w' := by
  have hxs : x.size = p.length + a.length + 1 := by
    have : x.data.toList.length = x.size := rfl
    rw [← this, hx]
    simp
    omega
  have HP := Lib.hid hp
  have HA := Lib.hid ha
  have HX := Lib.hid hx
  have HXS := Lib.hid hxs
  obtain ⟨n, hn⟩ : ∃ n, n = p.length := ⟨_, rfl⟩
  obtain ⟨m, hm⟩ : ∃ m, m = a.length := ⟨_, rfl⟩
  rw [← hn, ← hm] at hxs
  have HN := Lib.hid hn
  have HM := Lib.hid hm
  have hi0 : IntKind.i64.wrap ((x.size : Int) - 1) = ((n + m : Nat) : Int) := by rw [IntWalk.i64_in _ (by omega)]; omega
  have hxb : n + m < x.size := by omega
  clear hp ha hx hxs hn hm
  go_enter Tryz.func25, Tryz.ntmps25
  go_wp2_with fail
  go_loop [3] (fun ix => ∃ i : Nat, n ≤ i ∧ i ≤ n + m ∧ ix = .int .i64 (i : Nat)) (fun ix => (intOf ix).toNat)
  case atStart => exact ⟨n + m, by omega, Nat.le_refl _, by first | rfl | rw [hi0] | (congr 1)⟩
  case round =>
    obtain ⟨i, hni, hinm, rfl⟩ := hrel
    clear hi0
    have HF := Lib.hid (last_drop x (p := p) (q := a ++ [10]) HX.out)
    cases i with
    | succ i =>
      have hlt : i < x.size := by omega
      have hend := last_end HP.out (j := i + 1 - n) (by have := HM.out; omega) HA.out x HX.out (by have := HN.out; omega) (by have := HN.out; omega)
      have hidx : p.length + (i + 1 - n) - 1 = i := by have := HN.out; omega
      have hend' : x[i] = 10 ↔ i + 1 - n = 0 := by
        have h2 := hend
        simp only [hidx] at h2
        exact h2
      have HEND := Lib.hid hend'
      clear hend hend' hidx hxb
      have q1 : decide ((0 : Int) < ((i + 1 : Nat) : Int)) = true := decide_eq_true (by omega)
      by_cases hj0 : i + 1 = n
      · have q2 : (((x[i]).toNat : Int) != 10) = false := by rw [HEND.out.2 (by omega)]; rfl
        have HII : Hid (i + 1 = p.length) := Lib.hid (by have := HN.out; omega)
        clear HEND hj0 hni hinm
        go_wp2_with fail
        go_ret
        refine ⟨?_, rfl⟩
        rw [← HF.out, ← HII.out]
        rfl
      · have q2 : (((x[i]).toNat : Int) != 10) = true := bne_iff_ne.2 (fun e => hj0 (by have := HEND.out.1 (UInt8.toNat_inj.1 (by have h : (10 : UInt8).toNat = 10 := rfl; rw [h]; omega)); omega))
        clear HEND
        go_wp2_with fail
        go_round
        case rel => exact ⟨i, by omega, by omega, by first | rfl | (congr 1; omega) | (congr 1; rw [IntWalk.i64_in _ (by omega)]; omega)⟩
        case measure => first | (simp [intOf]; done) | (simp [intOf]; omega)
    | zero =>
      have HPL : Hid (p.length = 0) := Lib.hid (by have := HN.out; omega)
      clear hni hinm hxb
      go_wp2_with fail
      go_ret
      refine ⟨?_, rfl⟩
      have h : x = ⟨(a ++ [10]).toArray⟩ := by rw [← HF.out, HPL.out]; simp
      rw [← h]
      rfl

end Go.Proofs.YtfofepmkjjeldaaGreatDoor
