/- The reference's numbers and cuts. -/
import Derived.Test.YtegibgflhhdddaaGreatDoorRefBook3
import Derived.Test.YtegibgflhhdddaaGreatDoorBookTwo
namespace Go.Proofs.YtegibgflhhdddaaGreatDoor
open Go.RowKit

theorem dec_len19 : ∀ (k : Nat) {n : Nat}, 1 ≤ k → n < 10 ^ k → (Lib.decDigits n).length ≤ k := by
  intro k
  induction k with
  | zero => intro n h; omega
  | succ k ih =>
    intro n _ hn
    by_cases h : n < 10
    · rw [Lib.decDigits_one h]
      simp
    · rw [decDigits_big h, List.length_append]
      have hk : 1 ≤ k := by
        rcases Nat.eq_zero_or_pos k with rfl | hk
        · simp at hn; omega
        · exact hk
      have := ih (n := n / 10) hk (by rw [Nat.pow_succ] at hn; omega)
      simp only [List.length_cons, List.length_nil]
      omega
theorem numOf_long {s : List UInt8} (h : 19 < s.length) : numOf s = none := numOf_none.2 fun n hn e => by
  have := dec_len19 19 (n := n) (by decide) (Nat.lt_of_lt_of_le hn (by decide))
  rw [e] at this
  omega
theorem numOf_bad {s : List UInt8} {c : UInt8} (hc : c ∈ s) (h : c.toNat < 48 ∨ 57 < c.toNat) : numOf s = none := numOf_none.2 fun n _ e => by
  have := dec_digit c (by rw [e]; exact hc)
  omega
theorem valOf_lt (l : List UInt8) (h : ∀ c ∈ l, c.toNat ≤ 57) : valOf l < 10 ^ l.length := by
  have key : ∀ (l : List UInt8) (k a : Nat), (∀ c ∈ l, c.toNat ≤ 57) → a < 10 ^ k → l.foldl (fun a c => a * 10 + (c.toNat - 48)) a < 10 ^ (k + l.length) := by
    intro l
    induction l with
    | nil => intro k a _ ha; exact ha
    | cons c l ih =>
      intro k a h ha
      have h2 := h c List.mem_cons_self
      have h3 := ih (k + 1) (a * 10 + (c.toNat - 48)) (fun x hx => h x (List.mem_cons_of_mem _ hx)) (by rw [Nat.pow_succ]; omega)
      rw [List.foldl_cons, List.length_cons, show k + (l.length + 1) = k + 1 + l.length by omega]
      exact h3
  have h1 := key l 0 0 h (by decide)
  rw [Nat.zero_add] at h1
  exact h1

theorem wrap_step (V c : Nat) (hc : 48 ≤ c) (hc2 : c ≤ 57) : IntKind.i64.wrap (IntKind.i64.wrap (IntKind.i64.wrap (IntKind.i64.wrap (V : Int) * 10) + (c : Int)) - 48) = IntKind.i64.wrap ((V * 10 + (c - 48) : Nat) : Int) := by
  simp only [IntKind.wrap_i64]
  omega
theorem wrap_neg {V : Nat} (h1 : 9223372036854775808 ≤ V) (h2 : V < 10000000000000000000) : IntKind.i64.wrap (V : Int) < 0 := by
  rw [IntKind.wrap_i64]
  omega

set_option maxRecDepth 100000 in
set_option maxHeartbeats 4000000 in
theorem refnum_walk (s : ByteArray) (w : World) (hs : s.size ≤ 1000000) :
    Calls Tryz.prog 27 #[.string s] w fun e w' => NumRes s e ∧ w = w' := by
  have hl : s.data.toList.length = s.size := rfl
  have HL := Lib.hid hl
  by_cases h0 : s.size = 0
  · have hn : numOf s.data.toList = none := numOf_none.2 fun n _ e => dec_ne_nil n (by rw [e]; exact List.length_eq_zero_iff.1 (by omega))
    have HN := Lib.hid hn
    have q1 : ((s.size : Int) == 0) = true := beq_iff_eq.2 (by omega)
    clear hn hl h0
    go_enter Tryz.func27, Tryz.ntmps27
    go_wp2_with fail
    go_ret2
    exact ⟨⟨_, _, rfl, .inr ⟨rfl, HN.out⟩⟩, rfl⟩
  have q1 : ((s.size : Int) == 0) = false := beq_eq_false_iff_ne.2 (by omega)
  by_cases h19 : 19 < s.size
  · have HN := Lib.hid (numOf_long (s := s.data.toList) (by omega))
    have q2 : decide ((19 : Int) < (s.size : Int)) = true := decide_eq_true (by omega)
    clear hl
    go_enter Tryz.func27, Tryz.ntmps27
    go_wp2_with fail
    go_ret2
    exact ⟨⟨_, _, rfl, .inr ⟨rfl, HN.out⟩⟩, rfl⟩
  have q2 : decide ((19 : Int) < (s.size : Int)) = false := decide_eq_false (by omega)
  clear hl
  go_enter Tryz.func27, Tryz.ntmps27
  go_wp2_with fail
  clear q1 q2
  go_loop [4, 5] (fun a ix => ∃ k : Nat, k ≤ s.size ∧ ix = .int .i64 (k : Nat) ∧ a = .int .i64 (IntKind.i64.wrap (valOf (s.data.toList.take k) : Int)) ∧ ∀ c ∈ s.data.toList.take k, 48 ≤ c.toNat ∧ c.toNat ≤ 57) (fun _ ix => s.size - (intOf ix).toNat)
  case atStart => exact ⟨0, Nat.zero_le _, rfl, rfl, by simp⟩
  case round =>
    obtain ⟨k, hk, rfl, rfl, hd⟩ := hrel
    obtain ⟨V, hV⟩ : ∃ V, V = valOf (s.data.toList.take k) := ⟨_, rfl⟩
    rw [← hV]
    obtain ⟨A, hA⟩ : ∃ A, A = IntKind.i64.wrap (V : Int) := ⟨_, rfl⟩
    rw [← hA]
    have HVV := Lib.hid hV
    have HA := Lib.hid hA
    have HD := Lib.hid hd
    clear hV hA hd
    by_cases hlt : k < s.size
    · have q3 : decide (k < s.size) = true := decide_eq_true hlt
      have hkl : k < s.data.toList.length := by rw [HL.out]; exact hlt
      have hcc : s.data.toList[k] = s[k] := rfl
      have hmem : s[k] ∈ s.data.toList := by rw [← hcc]; exact List.getElem_mem _
      by_cases hc : 48 ≤ (s[k]).toNat ∧ (s[k]).toNat ≤ 57
      · have q4 : decide (((s[k]).toNat : Int) < 48) = false := decide_eq_false (by omega)
        have q5 : decide ((57 : Int) < ((s[k]).toNat : Int)) = false := decide_eq_false (by omega)
        have hst := wrap_step V (s[k]).toNat hc.1 hc.2
        rw [← HA.out] at hst
        have hv1 : valOf (s.data.toList.take (k + 1)) = V * 10 + ((s[k]).toNat - 48) := by
          rw [List.take_succ_eq_append_getElem hkl, valOf_snoc, ← HVV.out, hcc]
        have HST := Lib.hid (show IntKind.i64.wrap (IntKind.i64.wrap (IntKind.i64.wrap (A * 10) + ((s[k]).toNat : Int)) - 48) = IntKind.i64.wrap (valOf (s.data.toList.take (k + 1)) : Int) by rw [hst, hv1])
        have HD2 : Hid (∀ c ∈ s.data.toList.take (k + 1), 48 ≤ c.toNat ∧ c.toNat ≤ 57) := Lib.hid (fun c hm => by
          rw [List.take_succ_eq_append_getElem hkl] at hm
          rcases List.mem_append.1 hm with hm | hm
          · exact HD.out c hm
          · rw [List.mem_singleton.1 hm, hcc]
            exact hc)
        have hcs : IntKind.i64.wrap ((s[k]).toNat : Int) = ((s[k]).toNat : Int) := IntWalk.i64_in _ (by have := (s[k]).toNat_lt; omega)
        clear hst hv1 hcc hmem hc
        go_wp2_with fail
        go_round
        case rel => exact ⟨k + 1, by omega, by go_num, by rw [← HST.out]; simp only [IntWalk.i64_left], HD2.out⟩
        case measure => simp [intOf]; omega
      · have HN := Lib.hid (numOf_bad hmem (by omega))
        have hcase : decide (((s[k]).toNat : Int) < 48) = true ∨ (decide (((s[k]).toNat : Int) < 48) = false ∧ decide ((57 : Int) < ((s[k]).toNat : Int)) = true) := by
          by_cases h1 : (s[k]).toNat < 48
          · exact .inl (decide_eq_true (by omega))
          · exact .inr ⟨decide_eq_false (by omega), decide_eq_true (by omega)⟩
        clear hcc hmem hc
        rcases hcase with q4 | ⟨q4, q5⟩
        all_goals
          go_wp2_with fail
          go_ret2
          exact ⟨⟨_, _, rfl, .inr ⟨rfl, HN.out⟩⟩, rfl⟩
    · obtain rfl : k = s.size := by omega
      have q3 : decide (s.size < s.size) = false := decide_eq_false (by omega)
      have hall : s.data.toList.take s.size = s.data.toList := by rw [← HL.out]; exact List.take_length
      have hv2 : V = valOf s.data.toList := by rw [HVV.out, hall]
      have hlt2 : V < 10000000000000000000 := by
        have h1 := valOf_lt s.data.toList (fun c hc => by
          have h2 := HD.out
          rw [hall] at h2
          exact (h2 c hc).2)
        rw [← hv2, HL.out] at h1
        have h2 : 10 ^ s.size ≤ 10 ^ 19 := Nat.pow_le_pow_right (by decide) (by omega)
        have h3 : (10 : Nat) ^ 19 = 10000000000000000000 := by decide
        omega
      by_cases hbig : 9223372036854775808 ≤ V
      · have hneg := wrap_neg hbig hlt2
        rw [← HA.out] at hneg
        have q4 : decide ((0 : Int) ≤ A) = false := decide_eq_false (by omega)
        have HN : Hid (numOf s.data.toList = none) := Lib.hid (by unfold numOf; rw [if_neg (fun h => by rw [← hv2] at h; omega)])
        clear hneg hall hv2
        go_wp2_with fail
        go_ret2
        exact ⟨⟨_, _, rfl, .inr ⟨rfl, HN.out⟩⟩, rfl⟩
      · have hAV : A = (V : Int) := by rw [HA.out]; exact IntWalk.i64_in _ (by omega)
        have q4 : decide ((0 : Int) ≤ (V : Int)) = true := decide_eq_true (by omega)
        rw [hAV]
        have HV2 := Lib.hid hv2
        clear hAV hall hv2 HA
        go_wp2_with fail
        refine (digits_walk V (by omega) w).mono ?_
        rintro _ w1 ⟨rfl, rfl⟩
        obtain ⟨z, hz⟩ := named (Lib.decDigits V)
        rw [← hz]
        by_cases heq : Lib.decDigits V = s.data.toList
        · have hzs : z = s := str_eq (by rw [hz, ← heq])
          have HN : Hid (numOf s.data.toList = some V) := Lib.hid (numOf_some.2 ⟨heq, by omega⟩)
          subst hzs
          clear hz heq
          go_wp2_with fail
          go_ret2
          exact ⟨⟨_, _, rfl, .inl ⟨rfl, V, rfl, HN.out⟩⟩, rfl⟩
        · have hq : (z.toList == s.toList) = false := str_beq_false (fun e => heq (by rw [← e, hz]))
          have HN : Hid (numOf s.data.toList = none) := Lib.hid (by unfold numOf; rw [← HV2.out, if_neg (fun h => heq h.1)])
          clear hz heq
          go_wp2_with fail
          go_ret2
          exact ⟨⟨_, _, rfl, .inr ⟨rfl, HN.out⟩⟩, rfl⟩

end Go.Proofs.YtegibgflhhdddaaGreatDoor
