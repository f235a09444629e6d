/- The library's functions that the book calls, each in the book's own words: Itoa, number, sum. -/
import Derived.Test.YtegibgflhhdddaaGreatDoorShelf
import Derived.Test.YtegibgflhhdddaaGreatDoorBookMath
import Derived.Test.YtegibgflhhdddaaGreatDoorBase
import Derived.Lib.AppendIntMem
import Derived.Lib.AtoiErrMem
namespace Go.Proofs.YtegibgflhhdddaaGreatDoor
open Go.RowKit

/-- the table of powers, from block B on untouched -/
def Pow (B : Nat) (w : World) : Prop := Lib.TabBelow Tryz.prog B w "internal/strconv.uint64pow10" .u64 Lib.pow10Tab
theorem Pow.on {B : Nat} {w w1 : World} (h : Pow B w) (hb : Below B w w1) : Pow B w1 := Lib.TabBelow.on h hb

structure EnvNow (w : World) : Prop where
  pow : Lib.TabIs Tryz.prog w "internal/strconv.uint64pow10" .u64 Lib.pow10Tab
  syn : ∃ tp p, w.var? Tryz.prog "strconv.ErrSyntax" = some #[.iface tp p]
  rng : ∃ tp p, w.var? Tryz.prog "strconv.ErrRange" = some #[.iface tp p]
  max : ∃ m, w.cell? ⟨0, 0, none⟩ = some (.int .i64 m)
def Env (B : Nat) (w : World) : Prop := ∀ w', Below B w w' → EnvNow w'
theorem Env.on {B : Nat} {w w1 : World} (h : Env B w) (hb : Below B w w1) : Env B w1 := fun w' h' => h w' (hb.trans h')
theorem Env.here {B : Nat} {w : World} (h : Env B w) : EnvNow w := h w (Below.refl _ _)
theorem Env.pow {B : Nat} {w : World} (h : Env B w) : Pow B w := fun w' hb => (h w' hb).pow

theorem itoa_walk (n : Int) (w : World) (B : Nat) (hp : Pow B w) (h0 : 0 ≤ n) (h1 : n ≤ 9223372036854775807) :
    Calls Tryz.prog 38 #[.int .i64 n] w fun e w' => e = .returned (.string ⟨(Lib.decDigits n.toNat).toArray⟩) ∧ Below w.heap.size w w' := by
  refine (Tryz.strconv_Itoa n (by omega) h1 w hp.here).mono ?_
  rintro e w' ⟨rfl, k, os, rfl⟩
  refine ⟨?_, Lib.below_grow _ w (Nat.le_refl _) k os⟩
  unfold Lib.itoa
  rw [if_neg (by omega)]

theorem itoaN_walk (n : Nat) (w : World) (B : Nat) (hp : Pow B w) (h1 : n ≤ 9223372036854775807) :
    Calls Tryz.prog 38 #[.int .i64 (n : Nat)] w fun e w' => e = .returned (.string ⟨(Lib.decDigits n).toArray⟩) ∧ Below w.heap.size w w' :=
  (itoa_walk (n : Int) w B hp (Int.natCast_nonneg _) (by omega)).mono fun e w' h => h

def NumRes (s : ByteArray) (e : Ending) : Prop := ∃ (n : Int) (ok : Bool), e = .returned (.tuple #[.int .i64 n, .bool ok]) ∧ ((ok = true ∧ ∃ k : Nat, n = k ∧ numOf s.data.toList = some k) ∨ (ok = false ∧ numOf s.data.toList = none))

theorem str_of_list (l : List UInt8) : (⟨l.toArray⟩ : ByteArray).data.toList = l := rfl

theorem numRes_yes {s : ByteArray} {v : Int} {q : Bool} (h0 : 0 ≤ v) (hl : v.toNat < 9223372036854775808) (hq : q = (Lib.decDigits v.toNat == s.toList)) (hat : Lib.atoiAll s.data.toList = .ok v) : (q = true ∧ ∃ k : Nat, v = k ∧ numOf s.data.toList = some k) ∨ (q = false ∧ numOf s.data.toList = none) := by
  rw [ByteArray.toList_eq] at hq
  by_cases h : Lib.decDigits v.toNat = s.data.toList
  · exact .inl ⟨by rw [hq, h]; exact beq_iff_eq.2 rfl, v.toNat, by omega, numOf_some.2 ⟨h, hl⟩⟩
  · refine .inr ⟨by rw [hq]; exact beq_eq_false_iff_ne.2 h, numOf_none.2 fun n hn e => h ?_⟩
    rw [← e, atoi_dec hn] at hat
    injection hat with hat
    rw [← hat, ← e]
    rfl

theorem numRes_no {s : ByteArray} (h : ∀ n : Nat, Lib.atoiAll s.data.toList ≠ .ok (n : Int)) : numOf s.data.toList = none :=
  numOf_none.2 fun n hn e => h n (by rw [← e]; exact atoi_dec hn)

set_option maxHeartbeats 1000000 in
theorem number_walk (s : ByteArray) (w : World) (B : Nat) (hB : B ≤ w.heap.size) (he : Env B w) (hs : s.size ≤ 1000000) :
    Calls Tryz.prog 75 #[.string s] w fun e w' => NumRes s e ∧ Below w.heap.size w w' := by
  have HE := Lib.hid he
  clear he
  cases hat : Lib.atoiAll s.data.toList with
  | ok v =>
    have HAT := Lib.hid hat
    clear hat
    have hv := atoi_range HAT.out
    go_enter Tryz.func75, Tryz.ntmps75
    go_wp2_with fail
    refine (Tryz.strconv_Atoi_ok s (by omega) v HAT.out w).mono ?_
    rintro e w1 ⟨rfl, hw1⟩
    have hb1 : Below w.heap.size w w1 := by
      rcases hw1 with rfl | ⟨t, rfl⟩
      · exact Below.refl _ _
      · exact Lib.bytesWorld_below _ _ _
    have HB1 := Lib.hid hb1
    clear hw1 hb1
    by_cases h0 : 0 ≤ v
    · have q1 : decide (0 ≤ v) = true := decide_eq_true h0
      go_wp2_with fail
      refine (itoa_walk v w1 B (HE.out.pow.on (HB1.out.mono hB)) h0 hv.2).mono ?_
      rintro e w2 ⟨rfl, hb2⟩
      have HB2 := Lib.hid (HB1.out.trans (hb2.mono HB1.out.size))
      clear hb2
      go_wp2_with fail
      go_ret2
      exact ⟨⟨_, _, rfl, numRes_yes h0 (atoi_lt HAT.out h0) rfl HAT.out⟩, HB2.out⟩
    · have q1 : decide (0 ≤ v) = false := decide_eq_false h0
      go_wp2_with fail
      go_ret2
      exact ⟨⟨_, _, rfl, .inr ⟨rfl, numRes_no fun n e => by rw [HAT.out] at e; injection e with e; omega⟩⟩, HB1.out⟩
  | «syntax» =>
    have HAT := Lib.hid hat
    clear hat
    obtain ⟨tp, p, hvar⟩ := HE.out.here.syn
    have HV := Lib.hid hvar
    clear hvar
    go_enter Tryz.func75, Tryz.ntmps75
    go_wp2_with fail
    refine (Tryz.strconv_Atoi_syntax_var s (by omega) HAT.out tp p w HV.out).mono ?_
    rintro e w1 ⟨N, rfl, -, -, hb1⟩
    have HB1 := Lib.hid hb1
    clear hb1
    go_wp2_with fail
    go_ret2
    exact ⟨⟨_, _, rfl, .inr ⟨rfl, numRes_no fun n e => by rw [HAT.out] at e; cases e⟩⟩, HB1.out⟩
  | range =>
    have HAT := Lib.hid hat
    clear hat
    obtain ⟨tp, p, hvar⟩ := HE.out.here.rng
    have HV := Lib.hid hvar
    clear hvar
    go_enter Tryz.func75, Tryz.ntmps75
    go_wp2_with fail
    refine (Tryz.strconv_Atoi_range_var s (by omega) HAT.out tp p w HV.out).mono ?_
    rintro e w1 ⟨N, rfl, -, -, hb1⟩
    have HB1 := Lib.hid hb1
    clear hb1
    go_wp2_with fail
    go_ret2
    exact ⟨⟨_, _, rfl, .inr ⟨rfl, numRes_no fun n e => by rw [HAT.out] at e; cases e⟩⟩, HB1.out⟩

theorem sum_take (l : List UInt8) (k : Nat) (h : k < l.length) : sumFrom 0 (l.take (k + 1)) = sumFrom 0 (l.take k) + (k + 1) * l[k].toNat := by
  rw [List.take_succ_eq_append_getElem h, sumFrom_snoc, List.length_take, Nat.min_eq_left (Nat.le_of_lt h), Nat.zero_add]
theorem sum_small (l : List UInt8) (k : Nat) (h : k ≤ 100000) : sumFrom 0 (l.take k) ≤ 2550000000000 := by
  have h1 := sumFrom_le (l.take k) 0
  have h2 : (l.take k).length ≤ 100000 := by rw [List.length_take]; omega
  have h3 : (l.take k).length * ((0 + (l.take k).length) * 255) ≤ 100000 * (100000 * 255) := Nat.mul_le_mul h2 (Nat.mul_le_mul (by omega) (Nat.le_refl _))
  omega

set_option maxHeartbeats 1000000 in
theorem sum_walk (s : ByteArray) (w : World) (hs : s.size ≤ 100000) :
    Calls Tryz.prog 71 #[.string s] w fun e w' => e = .returned (.int .i64 (wsum s.data.toList : Nat)) ∧ Below w.heap.size w w' := by
  have hcv := Lib.run_convert_string_bytes (P := Tryz.prog) w 9 29 5 s (u := .string) Tryz.underlying9 Tryz.underlying29 Tryz.underlying5
  have HC := Lib.hid (Lib.bytesWorld_cell w 5 s)
  have HB := Lib.hid (Lib.bytesWorld_below w 5 s)
  obtain ⟨w1, hw1⟩ : ∃ w1, w1 = Lib.bytesWorld w 5 s := ⟨_, rfl⟩
  rw [← hw1] at hcv HC HB
  obtain ⟨cap, hcap⟩ : ∃ cap, cap = grownCap w s.size 0 5 := ⟨_, rfl⟩
  rw [← hcap] at hcv
  clear hw1 hcap
  obtain ⟨n, hn⟩ : ∃ n, n = s.size := ⟨_, rfl⟩
  have hl : s.data.toList.length = s.size := rfl
  rw [← hn] at hcv hs hl
  have HN := Lib.hid hn
  have HL := Lib.hid hl
  clear hn hl
  go_enter Tryz.func71, Tryz.ntmps71
  go_wp2_with fail
  go_loop [3, 9] (fun t i => ∃ k : Nat, k ≤ n ∧ i = .int .i64 k ∧ t = .int .i64 (sumFrom 0 (s.data.toList.take k) : Nat)) (fun _ i => n - (intOf i).toNat)
  case atStart => exact ⟨0, Nat.zero_le _, rfl, rfl⟩
  case round =>
    obtain ⟨k, hk, rfl, rfl⟩ := hrel
    have hsm := sum_small s.data.toList k (by omega)
    by_cases hlt : k < n
    · have q1 : decide (k < n) = true := decide_eq_true hlt
      have hc := HC.out k (by have := HN.out; omega)
      have hkl : k < s.data.toList.length := by rw [HL.out]; exact hlt
      have hst := sum_take s.data.toList k hkl
      have hg : s.data.toList.getD k 0 = s.data.toList[k] := by rw [List.getD_eq_getElem?_getD, List.getElem?_eq_getElem hkl]; rfl
      rw [hg] at hc
      obtain ⟨c, hcc⟩ : ∃ c, c = s.data.toList[k].toNat := ⟨_, rfl⟩
      have hc256 : c < 256 := by rw [hcc]; exact s.data.toList[k].toNat_lt
      rw [← hcc] at hst hc
      have hst2 := sum_small s.data.toList (k + 1) (by omega)
      obtain ⟨A, hA⟩ : ∃ A, A = sumFrom 0 (s.data.toList.take k) := ⟨_, rfl⟩
      obtain ⟨A', hA'⟩ : ∃ A', A' = sumFrom 0 (s.data.toList.take (k + 1)) := ⟨_, rfl⟩
      rw [← hA, ← hA'] at hst
      rw [← hA] at hsm
      rw [← hA'] at hst2
      have hpm : (k + 1) * c ≤ 100000 * 256 := Nat.mul_le_mul (by omega) (by omega)
      obtain ⟨pm, hpme⟩ : ∃ pm, pm = (k + 1) * c := ⟨_, rfl⟩
      rw [← hpme] at hpm hst
      have q2 : IntKind.i64.wrap (((k : Int) + 1) * (c : Int)) = (pm : Int) := by
        have e1 : ((k : Int) + 1) * (c : Int) = (pm : Int) := by rw [hpme]; push_cast; rfl
        rw [e1]
        exact IntWalk.i64_in _ (by omega)
      have HST := Lib.hid hst
      have HA' := Lib.hid hA'
      have HHA := Lib.hid hA
      rw [← hA]
      clear hst hA hA' hpme hcc hg hkl
      go_wp2_with fail
      go_round
      case rel => exact ⟨k + 1, by omega, by go_num, by rw [← HA'.out, HST.out]; go_num⟩
      case measure => simp [intOf]; omega
    · obtain rfl : k = n := by omega
      have q1 : decide (k < k) = false := decide_eq_false hlt
      have htk : s.data.toList.take k = s.data.toList := List.take_of_length_le (by rw [HL.out]; exact Nat.le_refl _)
      rw [htk]
      clear htk
      go_wp2_with fail
      go_ret
      exact ⟨rfl, HB.out⟩

end Go.Proofs.YtegibgflhhdddaaGreatDoor
