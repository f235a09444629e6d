/- The walk of TopDelta. -/
import Derived.Test.YtglcljeeigilnaaDeltaBk
namespace Go.Proofs.Ytglcljeeigilnaa
open Go.RowKit Delta

theorem top_inC (a b c : Int) (w : World) :
    Calls Try.prog 22 #[.int .i64 a, .int .i64 b, .int .i64 c] w fun e w' => e = .returned (.bool (decide (b ≤ a ∧ a ≤ c))) ∧ w = w' := by
  by_cases h1 : b ≤ a
  · have q1 : decide (b ≤ a) = true := decide_eq_true h1
    by_cases h2 : a ≤ c
    · have q2 : decide (a ≤ c) = true := decide_eq_true h2
      go_enter Try.func22, Try.ntmps22
      go_wp2
      go_ret
      exact ⟨by simp [h1, h2], rfl⟩
    · have q2 : decide (a ≤ c) = false := decide_eq_false h2
      go_enter Try.func22, Try.ntmps22
      go_wp2
      go_ret
      exact ⟨by simp, rfl⟩
  · have q1 : decide (b ≤ a) = false := decide_eq_false h1
    go_enter Try.func22, Try.ntmps22
    go_wp2
    go_ret
    exact ⟨by simp, rfl⟩

def oneB (c : Int) : ByteArray := ⟨#[UInt8.ofNat c.toNat]⟩
def turned (o : ByteArray) (x : Nat) (c : Int) : ByteArray := o.extract 0 x ++ oneB c ++ o.extract (x + 1) o.size
theorem turned_size {o : ByteArray} {x : Nat} (c : Int) (h : x < o.size) : (turned o x c).size = o.size := by
  unfold turned
  rw [ByteArray.size_append, ByteArray.size_append, ext_size _ _ _ (by omega), ext_size _ _ _ (by omega)]
  show x - 0 + 1 + _ = _
  omega
theorem turned_ahead {o : ByteArray} {x n k : Nat} (c : Int) (h : x < o.size) (hk : k < x / n) : (turned o x c).extract (k * n) (k * n + n) = blk o n k := by
  have hle : k * n + n ≤ x := by
    have h1 := Nat.mul_le_mul_right n (show k + 1 ≤ x / n by omega)
    rw [Nat.succ_mul] at h1
    exact Nat.le_trans h1 (Nat.div_mul_le_self _ _)
  unfold turned blk
  have hs : (o.extract 0 x).size = x := by rw [ext_size _ _ _ (by omega)]; omega
  rw [ByteArray.append_assoc, ByteArray.extract_append, hs, show k * n + n - x = 0 by omega, show k * n - x = 0 by omega]
  rw [show (oneB c ++ o.extract (x + 1) o.size).extract 0 0 = ByteArray.empty by simp]
  rw [ByteArray.append_empty]
  apply ByteArray.ext
  simp [Nat.min_eq_left hle]

theorem infoSl : (Try.prog.info? 5).map (fun i => (i.zero, i.size, i.bytes)) = some (some (.int .u8 0), 1, 1) := by kernel_rfl

theorem own_le {l : List Pc} {p : Pc} (h : p ∈ l) : p.own.size ≤ ownsum l := by
  induction l with
  | nil => simp at h
  | cons a l ih =>
    simp only [ownsum, List.map_cons, List.sum_cons] at ih ⊢
    simp at h
    rcases h with rfl | h
    · omega
    · have := ih h; omega

set_option maxRecDepth 100000 in
set_option maxHeartbeats 4000000 in
theorem topdelta_walk (o : ByteArray) (i : Int) (c : Int) (z : Int) (W : World) (ho : o.size ≤ 140737488351232) (_hi : -9223372036854775808 ≤ i ∧ i ≤ 9223372036854775807) (hc : 0 ≤ c ∧ c ≤ 255) (_hz : -9223372036854775808 ≤ z ∧ z ≤ 9223372036854775807) :
    Calls Try.prog 9 #[.string o, .int .i64 i, .int .u8 c, .int .i64 z] W fun e w' => e = .returned (.bool true) ∧ Below W.heap.size W w' := by
  go_enter Try.func9, Try.ntmps9
  go_wp2_with fail
  refine (make_ok ab ab 2 _ (by decide) (by decide) (by decide) (by decide)).mono ?_
  rintro _ w1 ⟨v, out, rfl, hr, hown, hb⟩
  obtain rfl := ab_reach hr
  have HB1 := Lib.hid hb
  obtain ⟨r, cap, rfl, hbr, hrw⟩ := hown.form (by decide)
  have c1 := hown.cellAt 1 (by decide)
  have c1' : w1.cell? ⟨r, 1, none⟩ = some (.int .i64 2) := c1.trans rfl
  clear hr hown hb hbr hrw c1
  go_wp2_with fail
  refine (top_inC _ _ _ _).mono ?_
  by_cases hin : 0 ≤ i ∧ i ≤ (o.size : Int) - 1
  · rw [decide_eq_true hin]
    rintro _ w2 ⟨rfl, rfl⟩
    obtain ⟨x, rfl⟩ : ∃ x : Nat, i = x := ⟨i.toNat, by omega⟩
    have hxo : x < o.size := by omega
    clear hin _hi
    have s1 : IntKind.i64.wrap ((x : Int) + 1) = (x : Int) + 1 := IntWalk.i64_in _ (by omega)
    have s2 : ((x : Int) + 1).toNat = x + 1 := by omega
    have s3 : (0 : Int) ≤ (x : Int) + 1 := by omega
    have s4 : (x : Int) + 1 ≤ (o.size : Int) := by omega
    have s5 : (x : Int) ≤ (o.size : Int) := by omega
    have hconv := run_convert_bytes_back (P := Try.prog) (w1.alloc (.cells #[.int .u8 c] 5)).drew 50 9 5 ⟨w1.heap.size, 0, none⟩ 1 [UInt8.ofNat c.toNat] Try.underlying50 Try.underlying5 Try.underlying9 (by
      intro j hj
      obtain rfl : j = 0 := by simp at hj; exact hj
      rw [add_flat, World.cell?_drew, World.cell?_alloc_at _ _ _ _ rfl]
      simp
      omega)
    have hconv' : (convert 50 9 (.slice (some ⟨w1.heap.size, 0, none⟩) 1 1)).run Try.prog (w1.alloc (.cells #[.int .u8 c] 5)).drew = .ok (.string (oneB c)) (w1.alloc (.cells #[.int .u8 c] 5)).drew := hconv
    have hX1 : (oneB c).size = 1 := rfl
    have HT := Lib.hid (show o.extract 0 x ++ oneB c ++ o.extract (x + 1) o.size = turned o x c from rfl)
    obtain ⟨X, hX⟩ : ∃ X, X = oneB c := ⟨_, rfl⟩
    rw [← hX] at hconv' hX1 HT
    clear hconv hX hc
    have r7 : ¬ (9223372036854775807 < min x o.size + 1) := by omega
    have r8 : ¬ (9223372036854775807 < min x o.size + 1 + (o.size - (x + 1))) := by omega
    go_wp2_with fail
    go_region_law (fail)
    all_goals
      go_wp2_with fail
      have hb' : Below W.heap.size W (w1.alloc (.cells #[.int .u8 c] 5)).drew := ((HB1.out).alloc HB1.out.size _).drew
      have HBX := Lib.hid hb'
      obtain ⟨t, ht⟩ : ∃ t, t = o.extract 0 x ++ X ++ o.extract (x + 1) o.size := ⟨_, rfl⟩
      have HTT := Lib.hid (show t = turned o x c by rw [ht, HT.out])
      have htz : t.size = o.size := by rw [HTT.out, turned_size c hxo]
      rw [← ht]
      clear s1 s2 s3 s4 s5 r7 r8 ht hb' hconv' hX1 c1'
      by_cases hE : delE o t z = 0
      · obtain ⟨h1, h1', h2, h3⟩ : o.size ≤ 2000 ∧ t.size ≤ 2000 ∧ 1 ≤ z ∧ z ≤ 64 := by unfold delE at hE; split at hE <;> (try split at hE) <;> omega
        obtain ⟨n, rfl⟩ : ∃ n : Nat, z = n := ⟨z.toNat, by omega⟩
        have hn1 : 1 ≤ n := by omega
        have hn64 : n ≤ 64 := by omega
        clear hE h2 h3 _hz
        refine (make_ok o t n _ h1 h1' hn1 hn64).mono ?_
        rintro _ w2 ⟨v, out, rfl, hr, hown, hb⟩
        have HP := Lib.hid (HasPieces.of_own0 hown)
        have HB2 := Lib.hid (HBX.out.trans (hb.mono HBX.out.size))
        have hbk := hr.back hn1
        have hjoin : joined o out = t := by rw [hbk.join]; exact ext_all t
        have HAP := Lib.hid (show ap o out = (0, t) by rw [ap_good h1 (Nat.le_trans hbk.len h1') hbk.good (by rw [hjoin]; exact h1'), hjoin])
        have HSZ := Lib.hid (show ∀ p ∈ out, p.own.size ≤ 140737488351232 from fun p hp => by have := (own_small hn1 h1' hr).2.2 p hp; have h2 := own_le hp; have h3 := (own_small hn1 h1' hr).2.1; omega)
        obtain ⟨q, hq⟩ : ∃ q, q = x / n := ⟨_, rfl⟩
        have hqx : q * n ≤ x := by rw [hq]; exact Nat.div_mul_le_self _ _
        obtain ⟨ha1, ha2⟩ := hr.ahead_end hn1 (q := q) (by omega) (by omega) (fun k hk => by rw [HTT.out]; exact turned_ahead c hxo (by rw [← hq]; exact hk))
        have HA2 := Lib.hid ha2
        have hol : out.length ≤ 2000 := Nat.le_trans hbk.len h1'
        obtain ⟨va, cap2, rfl⟩ := own_shape hown
        have hq2 : q ≤ 2000 := by omega
        have t1 : (x : Int) / (n : Int) = (q : Int) := by rw [hq]; rfl
        have t2 : (x : Int).tdiv (n : Int) = (q : Int) := by rw [hq]; rfl
        have t3 : ¬ (n = 0) := by omega
        have t4 : decide ((0 : Int) < (n : Int)) = true := decide_eq_true (by omega)
        have t4' : decide (0 < n) = true := decide_eq_true (by omega)
        obtain ⟨L, hL⟩ : ∃ L, L = out.length := ⟨_, rfl⟩
        rw [← hL] at ha1 hol HP ⊢
        have HL := Lib.hid hL
        clear hr hown hb hbk hjoin hq hqx ha2 hL
        go_wp2_with fail
        go_loopw [14] (fun ix wr => ∃ k : Nat, k ≤ q ∧ ix = .int .i64 k ∧ wr = w2) (fun ix _ => q - (intOf ix).toNat)
        case atStart => exact ⟨0, by omega, rfl, rfl⟩
        case round =>
          obtain ⟨k, hk, rfl, rfl⟩ := hrel
          by_cases hlt : k < q
          · have q1 : decide (k < q) = true := decide_eq_true hlt
            have q2 : decide (L ≤ k) = false := decide_eq_false (by omega)
            obtain ⟨p, hp, hpz⟩ := HA2.out k hlt
            obtain ⟨a', cap', e1, -, -, hcell⟩ := HP.out
            obtain ⟨rfl, -, rfl⟩ : va = a' ∧ L = out.length ∧ cap2 = cap' := by simpa using e1
            obtain ⟨b, off, rfl, hbw, hcs⟩ := hcell (by have := HL.out; omega)
            obtain ⟨c1, c2, c3⟩ := hcs k p hp
            rw [hpz] at c2
            clear hcell hcs hp hpz e1 c1 c3
            go_wp2_with fail
            go_roundw
            case rel => exact ⟨k + 1, by omega, by go_num, trivial⟩
            case measure => simp [intOf]; omega
          · obtain rfl : k = q := by omega
            have q1 : decide (k < k) = false := decide_eq_false hlt
            go_wp2_with fail
            refine (apply_any o _ out _ (by omega) HP.out HSZ.out).mono ?_
            rw [HAP.out]
            rintro _ w3 ⟨rfl, hb3⟩
            have HB3 := Lib.hid (HB2.out.trans (hb3.mono HB2.out.size))
            clear hb3
            have he0 : errC (0 : Int) = .nilIface := rfl
            go_wp2_with fail
            go_ret
            exact ⟨rfl, HB3.out⟩
      · have HE := Lib.hid hE
        clear hE
        refine (make_no o t z _ ho (by omega) HE.out).mono ?_
        have he : errC (delE o t z) = .iface 63 (.int .i64 (delE o t z)) := by unfold errC; rw [if_neg HE.out]
        rw [he]
        clear he
        rintro _ w2 ⟨rfl, rfl⟩
        go_wp2_with fail
        go_ret
        exact ⟨rfl, HBX.out⟩
  · rw [decide_eq_false hin]
    rintro _ w2 ⟨rfl, rfl⟩
    go_wp2_with fail
    go_ret
    exact ⟨rfl, HB1.out⟩

end Go.Proofs.Ytglcljeeigilnaa
