/- The reference's book: numerals, sums, a line put down. -/
import Derived.Test.YtegibgflhhdddaaGreatDoorRefList
import Derived.Test.YtegibgflhhdddaaGreatDoorBookMath
import Derived.Lib.ItoaLen
import Derived.StillTailTactics
namespace Go.Proofs.YtegibgflhhdddaaGreatDoor
open Go.RowKit

theorem bytes_app (a b : List UInt8) : (⟨a.toArray⟩ : ByteArray) ++ ⟨b.toArray⟩ = ⟨(a ++ b).toArray⟩ := ByteArray.ext (by simp)

theorem tenth : ∀ n, n < 10 → (⟨#[48, 49, 50, 51, 52, 53, 54, 55, 56, 57]⟩ : ByteArray).extract n (n + 1) = ⟨#[UInt8.ofNat (48 + n)]⟩ := by
  intro n h
  rcases n with _ | _ | _ | _ | _ | _ | _ | _ | _ | _ | n <;> first | rfl | omega

set_option maxHeartbeats 1000000 in
theorem digits_walk (n : Nat) : n ≤ 9223372036854775807 → ∀ w : World,
    Calls Tryz.prog 31 #[.int .i64 (n : Nat)] w fun e w' => e = .returned (.string ⟨(Lib.decDigits n).toArray⟩) ∧ w = w' := by
  induction n using Nat.strongRecOn with
  | _ n ih =>
    intro hn w
    have IH := Lib.hid ih
    clear ih
    by_cases h : n < 10
    · have q1 : decide ((n : Int) < 10) = true := decide_eq_true (by omega)
      have HT := Lib.hid (tenth n h)
      have HD := Lib.hid (Lib.decDigits_one h)
      go_enter Tryz.func31, Tryz.ntmps31
      go_wp2_with fail
      go_ret
      exact ⟨by rw [HD.out]; simp [HT.out], rfl⟩
    · have q1 : decide ((n : Int) < 10) = false := decide_eq_false (by omega)
      have hl1 := Lib.nDigits_le20 (n / 10) (by omega)
      rw [← Lib.decDigits_length] at hl1
      have hl2 := Lib.nDigits_le20 (n % 10) (by omega)
      rw [← Lib.decDigits_length] at hl2
      have HD := Lib.hid (decDigits_big h)
      go_enter Tryz.func31, Tryz.ntmps31
      go_wp2_with fail
      rw [show (n : Int) / 10 = ((n / 10 : Nat) : Int) from by omega]
      refine (IH.out (n / 10) (by omega) (by omega) _).mono ?_
      rintro _ w1 ⟨rfl, rfl⟩
      go_wp2_with fail
      rw [show (n : Int) % 10 = ((n % 10 : Nat) : Int) from by omega]
      refine (IH.out (n % 10) (by omega) (by omega) _).mono ?_
      rintro _ w1 ⟨rfl, rfl⟩
      go_wp2_with fail
      go_ret
      exact ⟨by rw [HD.out, Lib.decDigits_one (show n % 10 < 10 by omega)]; rw [← bytes_app]; rfl, rfl⟩

theorem sumFrom_cons_take (l : List UInt8) (k : Nat) (h : k < l.length) : sumFrom 0 (l.take (k + 1)) = sumFrom 0 (l.take k) + (k + 1) * l[k].toNat := by
  rw [List.take_succ_eq_append_getElem h, sumFrom_snoc, List.length_take, Nat.min_eq_left (Nat.le_of_lt h), Nat.zero_add]
theorem sumFrom_small (l : List UInt8) (h : l.length ≤ 100000) : sumFrom 0 l ≤ 2550000000000 := by
  have h1 := sumFrom_le l 0
  have h3 : l.length * ((0 + l.length) * 255) ≤ 100000 * (100000 * 255) := Nat.mul_le_mul h (Nat.mul_le_mul (by omega) (Nat.le_refl _))
  omega

set_option maxHeartbeats 1000000 in
theorem refsum_walk (s : ByteArray) (w : World) (hs : s.size ≤ 100000) :
    Calls Tryz.prog 66 #[.string s] w fun e w' => e = .returned (.int .i64 (wsum s.data.toList : Nat)) ∧ w = w' := by
  have hl : s.data.toList.length = s.size := rfl
  have hT := sumFrom_small s.data.toList (by omega)
  obtain ⟨T, hTT⟩ : ∃ T, T = sumFrom 0 s.data.toList := ⟨_, rfl⟩
  rw [← hTT] at hT
  have HT := Lib.hid hTT
  have HL := Lib.hid hl
  clear hl hTT
  go_enter Tryz.func66, Tryz.ntmps66
  go_wp2_with fail
  go_loop [3, 4] (fun t i => ∃ k A : Nat, k ≤ s.size ∧ i = .int .i64 ((k : Int) - 1) ∧ t = .int .i64 (A : Nat) ∧ A + sumFrom 0 (s.data.toList.take k) = T) (fun _ i => (intOf i + 1).toNat)
  case atStart =>
    refine ⟨s.size, 0, Nat.le_refl _, ?_, rfl, ?_⟩
    · first | rfl | (congr 1; exact IntWalk.i64_in _ (by omega)) | (congr 1)
    · rw [List.take_of_length_le (by rw [HL.out]; exact Nat.le_refl _), HT.out, Nat.zero_add]
  case round =>
    obtain ⟨k, A, hk, rfl, rfl, hA⟩ := hrel
    have hA2 : A ≤ T := by omega
    have HA := Lib.hid hA
    clear hA
    by_cases h0 : 0 < k
    · obtain ⟨j, rfl⟩ : ∃ j, k = j + 1 := ⟨k - 1, by omega⟩
      have q1 : decide ((0 : Int) ≤ (j : Int) + 1 - 1) = true := decide_eq_true (by omega)
      have hlt : j < s.size := by omega
      have hjl : j < s.data.toList.length := by rw [HL.out]; exact hlt
      have hst := sumFrom_cons_take s.data.toList j hjl
      have hcc : s.data.toList[j] = s[j] := rfl
      rw [hcc] at hst
      obtain ⟨c, hc⟩ : ∃ c, c = (s[j]).toNat := ⟨_, rfl⟩
      have hc256 : c < 256 := by rw [hc]; exact (s[j]).toNat_lt
      have hcb : (s[j]).toNat < 256 := (s[j]).toNat_lt
      rw [← hc] at hst
      obtain ⟨pm, hpm⟩ : ∃ pm, pm = (j + 1) * c := ⟨_, rfl⟩
      have hpm1 : pm ≤ 100000 * 256 := by rw [hpm]; exact Nat.mul_le_mul (by omega) (by omega)
      rw [← hpm] at hst
      have hsum := HA.out
      rw [hst] at hsum
      have hA3 : A + pm ≤ T := by omega
      have HS := Lib.hid (show A + pm + sumFrom 0 (s.data.toList.take j) = T by omega)
      have q2 : IntKind.i64.wrap (((j : Int) + 1) * ((s[j]).toNat : Int)) = (pm : Int) := by
        have e1 : ((j : Int) + 1) * ((s[j]).toNat : Int) = (pm : Int) := by rw [← hc, hpm]; push_cast; rfl
        rw [e1]
        exact IntWalk.i64_in _ (by omega)
      clear hst hcc hc hpm hsum HA
      go_wp2_with fail
      go_round
      case rel => exact ⟨j, A + pm, by omega, by go_num, by go_num, HS.out⟩
      case measure => first | (simp [intOf]; done) | (simp [intOf]; omega)
    · obtain rfl : k = 0 := by omega
      go_wp2_with fail
      go_ret
      exact ⟨by
        have h := HA.out
        simp [sumFrom] at h
        rw [h, HT.out]
        simp [wsum], rfl⟩


theorem refin (a b c : Int) (w : World) :
    Calls Tryz.prog 46 #[.int .i64 a, .int .i64 b, .int .i64 c] w fun e w' => e = .returned (.bool (decide (b ≤ a ∧ a ≤ c))) ∧ w = w' := by
  by_cases h1 : b ≤ a
  · have q1 : decide (b ≤ a) = true := decide_eq_true h1
    by_cases h2 : a ≤ c
    · have q2 : decide (a ≤ c) = true := decide_eq_true h2
      go_enter Tryz.func46, Tryz.ntmps46
      go_wp2
      go_ret
      exact ⟨by simp [h1, h2], rfl⟩
    · have q2 : decide (a ≤ c) = false := decide_eq_false h2
      go_enter Tryz.func46, Tryz.ntmps46
      go_wp2
      go_ret
      exact ⟨by simp, rfl⟩
  · have q1 : decide (b ≤ a) = false := decide_eq_false h1
    go_enter Tryz.func46, Tryz.ntmps46
    go_wp2
    go_ret
    exact ⟨by simp, rfl⟩
theorem refin_yes {a b c : Int} (w : World) (h : b ≤ a ∧ a ≤ c) : Calls Tryz.prog 46 #[.int .i64 a, .int .i64 b, .int .i64 c] w fun e w' => e = .returned (.bool true) ∧ w = w' :=
  (refin a b c w).mono fun e w' hh => by rw [decide_eq_true h] at hh; exact hh
theorem refin_not {a b c : Int} (w : World) (h : ¬ (b ≤ a ∧ a ≤ c)) : Calls Tryz.prog 46 #[.int .i64 a, .int .i64 b, .int .i64 c] w fun e w' => e = .returned (.bool false) ∧ w = w' :=
  (refin a b c w).mono fun e w' hh => by rw [decide_eq_false h] at hh; exact hh

/-- a book of the reference, as a value -/
def refV (v1 v2 v3 : Value) (b : Bk) : Value := .agg #[v1, v2, v3, .string ⟨b.text.toArray⟩, .int .i64 (b.T.length : Nat)]
def natsI (l : List Nat) : List Int := l.map fun (n : Nat) => (n : Int)
/-- a slice lies in a block of integers, or nowhere -/
def IntRow (w : World) (v : Value) : Prop := ∀ (a : Addr) (n c : Nat), v = .slice (some a) n c → ∃ cs fr, w.heap[a.block]? = some (.cells cs 3 fr)
theorem IntRow.nil (w : World) : IntRow w (.slice none 0 0) := fun _ _ _ h => by cases h
theorem IntRow.below {w w' : World} {v : Value} (h : IntRow w v) (hb : Below w.heap.size w w') : IntRow w' v := fun a n c e => by
  obtain ⟨cs, fr, hh⟩ := h a n c e
  exact ⟨cs, fr, by rw [hb.block _ (Array.getElem?_eq_some_iff.1 hh).1]; exact hh⟩
theorem IntRow.of_own {w : World} {base : Nat} {v : Value} {n : Nat} {xs : List Value} (h : w.ownsRow base 3 1 v n xs) : IntRow w v := fun a m c e => by
  rcases h.2 with ⟨rfl, -⟩ | ⟨g, cap, cur, rfl, -, hh, -⟩
  · cases e
  · cases e
    exact ⟨cur, _, hh⟩
theorem IntRow.set {w : World} {v : Value} (h : IntRow w v) {g o : Nat} {u : Value} (hg : ∀ cs fr, w.heap[g]? ≠ some (.cells cs 3 fr)) : IntRow (w.setCell ⟨g, o, none⟩ u) v := fun a n c e => by
  obtain ⟨cs, fr, hh⟩ := h a n c e
  have hne : a.block ≠ g := fun e' => hg cs fr (by rw [← e']; exact hh)
  exact ⟨cs, fr, (heap_setCell_other w ⟨g, o, none⟩ a.block u hne).trans hh⟩

structure RefIs (w : World) (v1 v2 v3 : Value) (b : Bk) : Prop where
  r1 : HasInts w v1 (natsI b.B)
  r2 : HasInts w v2 (natsI (b.G.map (·.1)))
  r3 : HasInts w v3 (natsI (b.G.map (·.2)))
  n2 : b.G = [] → v2 = .slice none 0 0
  n3 : b.G = [] → v3 = .slice none 0 0
  i1 : IntRow w v1
  i2 : IntRow w v2
  i3 : IntRow w v3
theorem RefIs.below {w w' : World} {v1 v2 v3 : Value} {b : Bk} (h : RefIs w v1 v2 v3 b) (hb : Below w.heap.size w w') : RefIs w' v1 v2 v3 b := ⟨h.r1.below hb, h.r2.below hb, h.r3.below hb, h.n2, h.n3, h.i1.below hb, h.i2.below hb, h.i3.below hb⟩

theorem refinfo : (Tryz.prog.info? 44).map (·.size) = some 5 := by kernel_rfl

theorem load_book {w : World} {g : Nat} {v1 v2 v3 v4 v5 : Value} (hh : w.heap[g]? = some (.cells #[v1, v2, v3, v4, v5] 44 (0, 0))) : (loadVar 44 ⟨g, 0, none⟩).run Tryz.prog w = .ok (.agg #[v1, v2, v3, v4, v5]) w :=
  run_loadVar_row w g 44 44 #[v1, v2, v3, v4, v5] (0, 0) _ hh Tryz.underlying44 rfl refinfo

theorem load_bookD {w : World} {g : Nat} {v1 v2 v3 v4 v5 : Value} (hh : w.heap[g]? = some (.cells #[v1, v2, v3, v4, v5] 44 (0, 0))) : (loadVar 44 ⟨g, 0, none⟩).run Tryz.prog w.drew = .ok (.agg #[v1, v2, v3, v4, v5]) w.drew := load_book (w := w.drew) hh

theorem results_row1 {fn : Func} {p : Tmp} {ty : TypeId} (h : fn.results = #[.cell p ty]) {tmps : Array Value} {w : World} {g : Nat} {x : Value} {P : Program}
    (hp : tmps.getD p undef = .pointer (some ⟨g, 0, none⟩)) (hl : (loadVar ty ⟨g, 0, none⟩).run P w = .ok x w) : (results fn tmps).run P w = .ok x w := by
  have hp' : tmps[p]?.getD undef = .pointer (some ⟨g, 0, none⟩) := by simpa using hp
  simp [results, h, hp', asAddr, hl]
theorem results_row2 {fn : Func} {p a : Tmp} {ty : TypeId} (h : fn.results = #[.cell p ty, .tmp a]) {tmps : Array Value} {w : World} {g : Nat} {x : Value} {P : Program}
    (hp : tmps.getD p undef = .pointer (some ⟨g, 0, none⟩)) (hl : (loadVar ty ⟨g, 0, none⟩).run P w = .ok x w) : (results fn tmps).run P w = .ok (.tuple #[x, tmps.getD a undef]) w := by
  have hp' : tmps[p]?.getD undef = .pointer (some ⟨g, 0, none⟩) := by simpa using hp
  simp [results, h, hp', asAddr, hl]
theorem results_row3 {fn : Func} {p a b : Tmp} {ty : TypeId} (h : fn.results = #[.cell p ty, .tmp a, .tmp b]) {tmps : Array Value} {w : World} {g : Nat} {x : Value} {P : Program}
    (hp : tmps.getD p undef = .pointer (some ⟨g, 0, none⟩)) (hl : (loadVar ty ⟨g, 0, none⟩).run P w = .ok x w) : (results fn tmps).run P w = .ok (.tuple #[x, tmps.getD a undef, tmps.getD b undef]) w := by
  have hp' : tmps[p]?.getD undef = .pointer (some ⟨g, 0, none⟩) := by simpa using hp
  simp [results, h, hp', asAddr, hl]

theorem fill5 {w : World} {g : Nat} {T : TypeId} {a0 a1 a2 a3 a4 : Value} (h : w.heap[g]? = some (.cells #[a0, a1, a2, a3, a4] T (0, 0))) (x0 x1 x2 x3 x4 : Value) :
    (((((w.setCell ⟨g, 0, none⟩ x0).setCell ⟨g, 1, none⟩ x1).setCell ⟨g, 2, none⟩ x2).setCell ⟨g, 3, none⟩ x3).setCell ⟨g, 4, none⟩ x4).heap[g]? = some (.cells #[x0, x1, x2, x3, x4] T (0, 0)) := by
  have h0 := heap_setCell_same w g 0 _ T x0 h
  have h1 := heap_setCell_same _ g 1 _ T x1 h0
  have h2 := heap_setCell_same _ g 2 _ T x2 h1
  have h3 := heap_setCell_same _ g 3 _ T x3 h2
  have h4 := heap_setCell_same _ g 4 _ T x4 h3
  rw [h4]
  rfl

theorem refline_eq (t s : ByteArray) (k : Nat) (hk : k = wsum s.data.toList) : t ++ s ++ ⟨#[32]⟩ ++ ⟨(Lib.decDigits k).toArray⟩ ++ ⟨#[10]⟩ = ⟨(t.data.toList ++ (lineOf s.data.toList ++ [10])).toArray⟩ := by
  subst hk
  refine ByteArray.ext (Array.toList_inj.1 ?_)
  simp [lineOf]

set_option maxRecDepth 100000 in
/-- the reference puts a line down -/
theorem refdown_walk (w : World) (a1 a2 a3 : Option Addr) (n1 m1 n2 m2 n3 m3 : Nat) (t s : ByteArray) (m : Nat) (hs : s.size ≤ 1000) (ht : t.size ≤ 100000) (hm : m ≤ 1000) :
    Calls Tryz.prog 48 #[.agg #[.slice a1 n1 m1, .slice a2 n2 m2, .slice a3 n3 m3, .string t, .int .i64 (m : Nat)], .string s] w fun e w' => e = .returned (.agg #[.slice a1 n1 m1, .slice a2 n2 m2, .slice a3 n3 m3, .string ⟨(t.data.toList ++ (lineOf s.data.toList ++ [10])).toArray⟩, .int .i64 ((m + 1 : Nat) : Int)]) ∧ Below w.heap.size w w' := by
  obtain ⟨k, hk⟩ : ∃ k, k = wsum s.data.toList := ⟨_, rfl⟩
  have hk4 : k < 9973 := by rw [hk]; exact wsum_lt _
  have hd5 := dec_len4 (u := k) (by omega)
  have HK := Lib.hid hk
  clear hk
  go_enter Tryz.func48, Tryz.ntmps48
  have hq1 : ∀ w : World, Calls Tryz.prog 66 #[.string s] w fun e w' => e = .returned (.int .i64 (k : Nat)) ∧ w' = w := fun w => (refsum_walk s w (by omega)).mono fun e w' hh => ⟨by rw [hh.1, HK.out], hh.2.symm⟩
  have hq2 : ∀ w : World, Calls Tryz.prog 31 #[.int .i64 (k : Nat)] w fun e w' => e = .returned (.string ⟨(Lib.decDigits k).toArray⟩) ∧ w' = w := fun w => (digits_walk k (by omega) w).mono fun e w' hh => ⟨hh.1, hh.2.symm⟩
  have HQ1 := Lib.hid hq1
  have HQ2 := Lib.hid hq2
  clear hq1 hq2
  have hf1 : ¬ 9223372036854775807 < t.size + s.size := by omega
  have hf2 : ¬ 9223372036854775807 < t.size + s.size + 1 := by omega
  have hf3 : ¬ 9223372036854775807 < t.size + s.size + 1 + (Lib.decDigits k).length := by omega
  have hf4 : ¬ 9223372036854775807 < t.size + s.size + 1 + (Lib.decDigits k).length + 1 := by omega
  go_upto_region 1 with (fail)
  have hb0 := ((Below.refl w.heap.size w).alloc (Nat.le_refl _) (.cells #[.slice a1 n1 m1, .slice a2 n2 m2, .slice a3 n3 m3, .string t, .int .i64 (m : Nat)] 44)).alloc (by simp) (.cells #[.slice none 0 0, .slice none 0 0, .slice none 0 0, .string ⟨#[]⟩, .int .i64 0] 44)
  have hh0 : ((w.alloc (.cells #[.slice a1 n1 m1, .slice a2 n2 m2, .slice a3 n3 m3, .string t, .int .i64 (m : Nat)] 44)).alloc (.cells #[.slice none 0 0, .slice none 0 0, .slice none 0 0, .string ⟨#[]⟩, .int .i64 0] 44)).heap[w.heap.size]? = some (.cells #[.slice a1 n1 m1, .slice a2 n2 m2, .slice a3 n3 m3, .string t, .int .i64 (m : Nat)] 44 (0, 0)) := by
    rw [Below.heap_alloc _ _ _ (by simp)]
    exact heap_alloc_new w _
  have hh1 := heap_alloc_new (w.alloc (.cells #[.slice a1 n1 m1, .slice a2 n2 m2, .slice a3 n3 m3, .string t, .int .i64 (m : Nat)] 44)) (.cells #[.slice none 0 0, .slice none 0 0, .slice none 0 0, .string ⟨#[]⟩, .int .i64 0] 44)
  obtain ⟨w0, hw0⟩ : ∃ x, x = (w.alloc (.cells #[.slice a1 n1 m1, .slice a2 n2 m2, .slice a3 n3 m3, .string t, .int .i64 (m : Nat)] 44)).alloc (.cells #[.slice none 0 0, .slice none 0 0, .slice none 0 0, .string ⟨#[]⟩, .int .i64 0] 44) := ⟨_, rfl⟩
  rw [← hw0] at hb0 hh0 hh1 ⊢
  rw [World.size_alloc] at hh1
  obtain ⟨g, hg⟩ : ∃ g, g = w.heap.size := ⟨_, rfl⟩
  rw [← hg] at hh0 hh1 ⊢
  have HB0 := Lib.hid hb0
  have HG := Lib.hid hg
  have H0 := Lib.hid hh0
  have H1 := Lib.hid hh1
  have c3 : w0.cell? ⟨g, 3, none⟩ = some (.string t) := by unfold World.cell?; simp only; rw [hh0]; rfl
  have f3 : w0.frozen? ⟨g, 3, none⟩ = false := by unfold World.frozen?; simp only; rw [hh0]; rfl
  clear hw0 hb0 hg hh0 hh1
  refine wp_region_still_tail 10 (by kernel_rfl) (by kernel_rfl) ?_
  simp only [List.take_succ_cons, List.take_zero, List.drop_succ_cons, List.drop_zero]
  still_step
  still_step
  still_step
  still_step
  still_step
  still_step
  still_call (HQ1.out _)
  still_call (HQ2.out _)
  still_step
  still_step
  refine wpStill_nil ?_
  change wpList _ _ _ _ _ w0.drew
  have c0 : w0.cell? ⟨g, 0, none⟩ = some (.slice a1 n1 m1) := by unfold World.cell?; simp only; rw [H0.out]; rfl
  have c1 : w0.cell? ⟨g, 1, none⟩ = some (.slice a2 n2 m2) := by unfold World.cell?; simp only; rw [H0.out]; rfl
  have c2 : w0.cell? ⟨g, 2, none⟩ = some (.slice a3 n3 m3) := by unfold World.cell?; simp only; rw [H0.out]; rfl
  have c4 : w0.cell? ⟨g, 4, none⟩ = some (.int .i64 (m : Nat)) := by unfold World.cell?; simp only; rw [H0.out]; rfl
  have f4 : w0.frozen? ⟨g, 4, none⟩ = false := by unfold World.frozen?; simp only; rw [H0.out]; rfl
  have e0 : w0.cell? ⟨g + 1, 0, none⟩ = some (.slice none 0 0) := by unfold World.cell?; simp only; rw [H1.out]; rfl
  have e1 : w0.cell? ⟨g + 1, 1, none⟩ = some (.slice none 0 0) := by unfold World.cell?; simp only; rw [H1.out]; rfl
  have e2 : w0.cell? ⟨g + 1, 2, none⟩ = some (.slice none 0 0) := by unfold World.cell?; simp only; rw [H1.out]; rfl
  have e3 : w0.cell? ⟨g + 1, 3, none⟩ = some (.string ⟨#[]⟩) := by unfold World.cell?; simp only; rw [H1.out]; rfl
  have e4 : w0.cell? ⟨g + 1, 4, none⟩ = some (.int .i64 0) := by unfold World.cell?; simp only; rw [H1.out]; rfl
  have k0 : w0.frozen? ⟨g + 1, 0, none⟩ = false := by unfold World.frozen?; simp only; rw [H1.out]; rfl
  have k1 : w0.frozen? ⟨g + 1, 1, none⟩ = false := by unfold World.frozen?; simp only; rw [H1.out]; rfl
  have k2 : w0.frozen? ⟨g + 1, 2, none⟩ = false := by unfold World.frozen?; simp only; rw [H1.out]; rfl
  have k3 : w0.frozen? ⟨g + 1, 3, none⟩ = false := by unfold World.frozen?; simp only; rw [H1.out]; rfl
  have k4 : w0.frozen? ⟨g + 1, 4, none⟩ = false := by unfold World.frozen?; simp only; rw [H1.out]; rfl
  have HEQ := Lib.hid (refline_eq t s k HK.out)
  go_wp2_with fail
  refine bodyPost_ret (results_row1 rfl rfl (load_bookD (fill5 (a0 := .slice none 0 0) (a1 := .slice none 0 0) (a2 := .slice none 0 0) (a3 := .string ⟨#[]⟩) (a4 := .int .i64 0) (((heap_setCell_other _ _ _ _ (by simp only; omega)).trans (heap_setCell_other _ _ _ _ (by simp only; omega))).trans H1.out) _ _ _ _ _))) rfl ⟨?_, ?_⟩
  · rw [HEQ.out]
    rfl
  · have hg := HG.out
    exact (((((((HB0.out.setCell (p := ⟨g, 3, none⟩) (by simp only; omega) _).setCell (p := ⟨g, 4, none⟩) (by simp only; omega) _).setCell (p := ⟨g + 1, 0, none⟩) (by simp only; omega) _).setCell (p := ⟨g + 1, 1, none⟩) (by simp only; omega) _).setCell (p := ⟨g + 1, 2, none⟩) (by simp only; omega) _).setCell (p := ⟨g + 1, 3, none⟩) (by simp only; omega) _).setCell (p := ⟨g + 1, 4, none⟩) (by simp only; omega) _).drew

end Go.Proofs.YtegibgflhhdddaaGreatDoor
