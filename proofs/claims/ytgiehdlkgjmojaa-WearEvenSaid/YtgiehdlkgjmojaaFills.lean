/- The walk of WearFills. -/
import Derived.Test.YtgiehdlkgjmojaaWearFact
import Derived.Test.YtgiehdlkgjmojaaRising
import Derived.Test.YtgiehdlkgjmojaaReadInts
namespace Go.Proofs.Ytgiehdlkgjmojaa
open Go.RowKit Wear

theorem up_first {ys : List Int} (h : Up ys) {a : Int} (ha : ys[0]? = some a) : ∀ y ∈ ys, a ≤ y := by
  cases ys with
  | nil => simp at ha
  | cons x l =>
    simp at ha; subst ha
    unfold Up at h
    rw [List.pairwise_cons] at h
    intro y hy
    rcases List.mem_cons.1 hy with hy | hy
    · omega
    · exact h.1 y hy
theorem up_last {ys : List Int} (h : Up ys) {b : Int} (hb : ys[ys.length - 1]? = some b) : ∀ y ∈ ys, y ≤ b := by
  intro y hy
  obtain ⟨j, hj, rfl⟩ := List.mem_iff_getElem.1 hy
  have hl : ys.length - 1 < ys.length := by omega
  rw [List.getElem?_eq_getElem hl] at hb
  cases hb
  unfold Up at h
  rw [List.pairwise_iff_getElem] at h
  rcases Nat.lt_or_ge j (ys.length - 1) with h' | h'
  · exact h j _ hj hl h'
  · have : j = ys.length - 1 := by omega
    subst this
    exact Int.le_refl _

theorem code_ok {xs : List Int} (h : codeOf xs = 0) : 0 < xs.length ∧ xs.length ≤ 16 ∧ ∀ x ∈ xs, 0 ≤ x ∧ x ≤ 1000 := by
  unfold codeOf at h
  split at h
  · omega
  · rename_i h'
    split at h
    · omega
    · split at h
      · exact ⟨List.length_pos_iff.2 h', by omega, by assumption⟩
      · omega

theorem sum_take {rs : List Int} {k : Nat} {x : Int} (h : rs[k]? = some x) : (rs.take (k + 1)).sum = (rs.take k).sum + x := by
  rw [List.take_add_one, h]
  simp

theorem sum_perm {a b : List Int} (h : a.Perm b) : a.sum = b.sum := by
  induction h with
  | nil => rfl
  | cons x _ ih => simp [ih]
  | swap x y l => simp; omega
  | trans _ _ h1 h2 => exact h1.trans h2

theorem sum_bounds {l : List Int} (h : ∀ x ∈ l, 0 ≤ x ∧ x ≤ 1000) : 0 ≤ l.sum ∧ l.sum ≤ 1000 * l.length := by
  induction l with
  | nil => simp
  | cons x l ih =>
    have h1 := h x (by simp)
    have h2 := ih (fun y hy => h y (by simp [hy]))
    simp
    omega

theorem gap_iff {ys zs : List Int} {a b : Int} (hp : zs.Perm ys) (hu : Up zs) (ha : zs[0]? = some a) (hb : zs[zs.length - 1]? = some b) (g : Int) : (b - a ≤ g) ↔ GapLe ys g := by
  constructor
  · intro h x hx y hy
    have := up_last hu hb x (hp.mem_iff.2 hx)
    have := up_first hu ha y (hp.mem_iff.2 hy)
    omega
  · intro h
    exact h b (hp.mem_iff.1 (List.mem_of_getElem? hb)) a (hp.mem_iff.1 (List.mem_of_getElem? ha))

set_option maxHeartbeats 1000000 in
theorem fills_walk (va : Value) (m : Int) (w : World) {xs : List Int} (hax : IntsArg w va xs) (hm : -9223372036854775808 ≤ m ∧ m ≤ 9223372036854775807) :
    Calls Try.prog 3 #[va, .int .i64 m] w fun e w' => e = .returned (.bool true) ∧ Below w.heap.size w w' := by
  have HA := Lib.hid hax.1
  clear hax
  go_enter Try.func3, Try.ntmps3
  go_wp2_with fail
  refine (wearFact_any _).mono ?_
  rintro _ w1 ⟨rfl, hb1⟩
  have HB1 := Lib.hid hb1
  have HA1 := Lib.hid (HA.out.below hb1)
  clear hb1
  go_wp2_with fail
  by_cases hgood : codeOf xs = 0 ∧ 0 ≤ m ∧ m ≤ 1000
  · obtain ⟨hc, hm1, hm2⟩ := hgood
    obtain ⟨hx1, hx2, hx3⟩ := code_ok hc
    refine (after_any _ xs m _ HA1.out ⟨hm1, hm2⟩ hc).mono ?_
    rintro _ w2 ⟨⟨v, ys, rfl, hu, hown⟩, hb2⟩
    have HU := Lib.hid hu
    have HB2 := Lib.hid (HB1.out.trans (hb2.mono HB1.out.size))
    have HYS := Lib.hid (HasInts.of_own hown).2
    have HA2 := Lib.hid (HA1.out.below hb2)
    have HLY := Lib.hid hu.length
    have HX := Lib.hid hx3
    clear hu hown hb2 hc hx3
    go_wp2_with fail
    refine (rising_any _ xs _ HA2.out (by omega)).mono ?_
    rintro _ w3 ⟨⟨v3, rs, rfl, hown3, hp, hup⟩, hb3⟩
    have HR := (HasInts.of_own hown3).2
    have hrl : rs.length = xs.length := hp.length_eq
    have HB3 := Lib.hid (HB2.out.trans (hb3.mono HB2.out.size))
    have HY3 := Lib.hid (HYS.out.below hb3)
    have HRI := Lib.hid HR
    obtain ⟨ar, cr, rfl, hcr1, hcr2, hcr⟩ := HR
    obtain ⟨br, or, rfl, hbr, hcr⟩ := hcr (by omega)
    obtain ⟨n, hn⟩ : ∃ n, n = rs.length := ⟨_, rfl⟩
    rw [← hn] at hcr1 hrl ⊢
    obtain ⟨M, hM⟩ : ∃ M, rs[n - 1]? = some M := ⟨_, List.getElem?_eq_getElem (by omega)⟩
    obtain ⟨n', hn'⟩ : ∃ n', n = n' + 1 := ⟨n - 1, by omega⟩
    have hMc := hcr (n - 1) M hM
    rw [hn'] at hMc
    simp only [Nat.add_sub_cancel] at hMc
    have HRX := Lib.hid (show ∀ x ∈ rs, 0 ≤ x ∧ x ≤ 1000 from fun x hx => HX.out x (hp.mem_iff.1 hx))
    have hMb := HRX.out M (List.mem_of_getElem? hM)
    have hMb1 := hMb.1
    have hMb2 := hMb.2
    have HMX := Lib.hid (show ∀ x ∈ xs, x ≤ M from fun x hx => up_last hup (by rw [← hn]; exact hM) x (hp.mem_iff.2 hx))
    have HS := Lib.hid (show rs.sum = xs.sum from sum_perm hp)
    have HN := Lib.hid hn
    have HRL := Lib.hid hrl
    have HC := Lib.hid hcr
    clear hMb hM hcr hn hp hup hown3 hb3 hcr1 hcr2 hrl
    subst hn'
    have hn16 : n' + 1 ≤ 16 := by have := HRL.out; omega
    go_wp2_with fail
    go_loopw [9, 10] (fun u i wr => ∃ k : Nat, k ≤ n' + 1 ∧ i = .int .i64 (k : Nat) ∧ u = .int .i64 (k * M - (rs.take k).sum) ∧ ∃ d, wr = w3.drewN d) (fun _ i _ => n' + 1 - (intOf i).toNat)
    case atStart => exact ⟨0, Nat.zero_le _, rfl, by simp, 0, rfl⟩
    case round =>
      obtain ⟨k, hk, rfl, rfl, d, rfl⟩ := hrel
      have hsb := sum_bounds (l := rs.take k) (fun x hx => HRX.out x (List.mem_of_mem_take hx))
      have hsl : (rs.take k).length ≤ k := List.length_take_le _ _
      have hkM : 0 ≤ (k : Int) * M ∧ (k : Int) * M ≤ 16 * 1000 := ⟨Int.mul_nonneg (by omega) hMb1, Int.mul_le_mul (by omega) hMb2 hMb1 (by omega)⟩
      obtain ⟨L, hL⟩ : ∃ L, L = (k : Int) * M - (rs.take k).sum := ⟨_, rfl⟩
      have hL1 : -16000 ≤ L := by omega
      have hL2 : L ≤ 16000 := by omega
      rw [← hL]
      have HL := Lib.hid hL
      clear hL hsb hsl hkM
      by_cases hlt : k < n' + 1
      · obtain ⟨x, hx⟩ : ∃ x, rs[k]? = some x := ⟨_, List.getElem?_eq_getElem (by have := HN.out; omega)⟩
        have hxc := HC.out k x hx
        have hxb := HRX.out x (List.mem_of_getElem? hx)
        have hxb1 := hxb.1
        have hxb2 := hxb.2
        have EX := Lib.hid hx
        clear hx hxb
        have q1 : IntKind.i64.wrap (n' : Int) = n' := IntWalk.i64_in _ (by omega)
        have q2 : IntKind.i64.wrap (L + M) = L + M := IntWalk.i64_in _ (by omega)
        have q3 : IntKind.i64.wrap (L + M - x) = L + M - x := IntWalk.i64_in _ (by omega)
        go_wp2_with fail
        go_quiet (fail)
        clear q1 q2 q3
        go_wp2_with fail
        go_roundw
        case rel => exact ⟨k + 1, by omega, by go_num, by
          rw [sum_take EX.out, HL.out]
          congr 1
          push_cast
          rw [Int.add_mul]
          omega, _, rfl⟩
        case measure => simp [intOf]; omega
      · have hkn : k = n' + 1 := by omega
        have HLACK := Lib.hid (show L = lack M xs from by
          rw [HL.out, hkn, List.take_of_length_le (by have := HN.out; omega), HS.out]
          unfold lack
          rw [← HRL.out])
        obtain ⟨m', rfl⟩ : ∃ m' : Nat, m = m' := ⟨m.toNat, by omega⟩
        rw [Int.toNat_natCast] at HU
        go_wp2_with fail
        refine (rising_any _ ys _ (HY3.out.drewN d) (by have := HLY.out; omega)).mono ?_
        rintro _ w4 ⟨⟨v4, zs, rfl, hown4, hp4, hup4⟩, hb4⟩
        have hb3' := below_drewN HB3.out d
        have HB4 := Lib.hid (hb3'.trans (hb4.mono hb3'.size))
        have hz := (HasInts.of_own hown4).2
        have hzl : zs.length = xs.length := by have := hp4.length_eq; have := HLY.out; omega
        obtain ⟨az, cz, rfl, hcz1, hcz2, hcz⟩ := hz
        obtain ⟨bz, oz, rfl, hbz, hcz⟩ := hcz (by omega)
        obtain ⟨nz, hnz⟩ : ∃ nz, zs.length = nz + 1 := ⟨zs.length - 1, by omega⟩
        obtain ⟨A, hA⟩ : ∃ A, zs[0]? = some A := ⟨_, List.getElem?_eq_getElem (by omega)⟩
        obtain ⟨Bz, hB⟩ : ∃ Bz, zs[nz]? = some Bz := ⟨_, List.getElem?_eq_getElem (by omega)⟩
        have hAc := hcz 0 A hA
        have hBc := hcz nz Bz hB
        simp only [Nat.add_zero] at hAc
        have HGAP := Lib.hid (gap_iff hp4 hup4 hA (by rw [hnz]; exact hB) 1)
        have hyb : ∀ y ∈ zs, 0 ≤ y ∧ y ≤ 3000 := fun y hy => by
          have hy' := hp4.mem_iff.1 hy
          obtain ⟨j, hj, e⟩ := List.mem_iff_getElem.1 hy'
          obtain ⟨x, hx⟩ : ∃ x, xs[j]? = some x := ⟨_, List.getElem?_eq_getElem (by have := HLY.out; omega)⟩
          have h1 := HU.out.ge j x y hx (by rw [List.getElem?_eq_getElem hj, e])
          have h2 := HX.out x (List.mem_of_getElem? hx)
          omega
        have hA1 := (hyb A (List.mem_of_getElem? hA)).1
        have hA2 := (hyb A (List.mem_of_getElem? hA)).2
        have hB1 := (hyb Bz (List.mem_of_getElem? hB)).1
        have hB2 := (hyb Bz (List.mem_of_getElem? hB)).2
        have hnz16 : nz + 1 ≤ 16 := by omega
        rw [hnz]
        clear hcz hyb hA hB hp4 hup4 hown4 hb4 hb3' hnz hcz1 hcz2 hzl hkn
        by_cases hlack : (m' : Int) < L
        · have q1 : decide ((m' : Int) < L) = true := decide_eq_true hlack
          go_wp2_with fail
          go_quiet (fail)
          clear q1
          go_wp2_with fail
          go_ret
          exact ⟨rfl, below_drewN HB4.out _⟩
        · have hgap : Bz - A ≤ 1 := HGAP.out.2 ((HU.out.fills HMX.out).1 (by have := HLACK.out; omega))
          have q1 : decide ((m' : Int) < L) = false := decide_eq_false hlack
          have q2 : IntKind.i64.wrap (nz : Int) = nz := IntWalk.i64_in _ (by omega)
          have q3 : IntKind.i64.wrap (Bz - A) = Bz - A := IntWalk.i64_in _ (by omega)
          have q4 : decide (Bz - A ≤ 1) = true := decide_eq_true hgap
          go_wp2_with fail
          go_quiet (fail)
          clear q1 q2 q3 q4
          go_wp2_with fail
          go_ret
          exact ⟨rfl, below_drewN HB4.out _⟩
  · obtain ⟨c, hc0, hc⟩ : ∃ c, c ≠ 0 ∧ (codeOf xs = c ∨ (codeOf xs = 0 ∧ ¬ (0 ≤ m ∧ m ≤ 1000) ∧ c = 1)) := by
      by_cases h : codeOf xs = 0
      · exact ⟨1, by omega, .inr ⟨h, fun h' => hgood ⟨h, h'⟩, rfl⟩⟩
      · exact ⟨_, h, .inl rfl⟩
    refine (after_bad _ xs m c _ HA1.out hc0 hc).mono ?_
    rintro _ w2 ⟨rfl, rfl⟩
    clear hc0 hc hgood
    go_wp2_with fail
    go_ret
    exact ⟨rfl, HB1.out⟩

end Go.Proofs.Ytgiehdlkgjmojaa
