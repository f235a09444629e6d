/- The walks of next's function and of MinFunc. -/
import Derived.Test.YtegibgflhhdddaaDoorFtl4
namespace Go.Proofs.YtegibgflhhdddaaDoor
open Go.RowKit Ftl

theorem pick_snoc (f : Nat → Nat) {l : List Nat} (h : l ≠ []) (y : Nat) : pick f (l ++ [y]) = if f y < f (pick f l) then y else pick f l := by
  cases l with
  | nil => exact absurd rfl h
  | cons x l => simp only [pick, List.cons_append, List.foldl_append, List.foldl_cons, List.foldl_nil]; rfl

set_option maxHeartbeats 1000000 in
theorem cmp_walk (w : World) (B base g cb : Nat) (s : Fl) (x y : Nat) (hs : FlashIs w B base g s) (hc : w.cell? ⟨cb, 0, none⟩ = some (.pointer (some ⟨g, 0, none⟩))) (hx : x < 6) (hy : y < 6) (hxm : s.times x ≤ 1000000) (hym : s.times y ≤ 1000000) :
    Calls Tryd.prog 54 #[.int .i64 (x : Nat), .int .i64 (y : Nat), .pointer (some ⟨cb, 0, none⟩)] w fun e w' => e = .returned (.int .i64 ((s.times x : Int) - (s.times y : Int))) ∧ Below w.heap.size w w' := by
  have c1 := hs.ers x (s.times x) (by unfold Fl.times; rw [List.getElem?_eq_getElem (by rw [hs.elen]; exact hx)]; rfl)
  have c2 := hs.ers y (s.times y) (by unfold Fl.times; rw [List.getElem?_eq_getElem (by rw [hs.elen]; exact hy)]; rfl)
  obtain ⟨a, ha⟩ : ∃ a, a = s.times x := ⟨_, rfl⟩
  obtain ⟨b, hb⟩ : ∃ b, b = s.times y := ⟨_, rfl⟩
  rw [← ha] at c1 hxm ⊢
  rw [← hb] at c2 hym ⊢
  have s1 : IntKind.i64.wrap ((a : Int) - (b : Int)) = (a : Int) - (b : Int) := IntWalk.i64_in _ (by omega)
  have i1 : (0 : Int) ≤ (x : Int) := by omega
  have i2 : (x : Int) < 6 := by omega
  have i3 : (0 : Int) ≤ (y : Int) := by omega
  have i4 : (y : Int) < 6 := by omega
  clear hs ha hb hx hy
  go_enter Tryd.func54, Tryd.ntmps54
  go_wp2_with fail
  go_quiet (fail)
  go_wp2_with fail
  go_ret
  exact ⟨rfl, below_drewN (Below.refl _ _) _⟩

def natsV (l : List Nat) : List Value := l.map fun (b : Nat) => Value.int .i64 (b : Int)

structure MinRel (w wr : World) (B base g cb : Nat) (s : Fl) (l : List Nat) (k m : Nat) : Prop where
  is : m = pick s.times (l.take k)
  m6 : m < 6
  below : Below w.heap.size w wr

set_option maxRecDepth 100000 in
set_option maxHeartbeats 2000000 in
theorem min_walk (w : World) (B base g cb base2 : Nat) (s : Fl) (v : Value) (l : List Nat) (hs : FlashIs w B base g s) (hc : w.cell? ⟨cb, 0, none⟩ = some (.pointer (some ⟨g, 0, none⟩))) (hv : w.ownsRow base2 3 1 v l.length (natsV l))
    (hl0 : l ≠ []) (hl : l.length ≤ 6) (hl6 : ∀ b ∈ l, b < 6) (hm : ∀ b, s.times b ≤ 1000000) :
    Calls Tryd.prog 53 #[v, .func (.func 54) #[] #[.pointer (some ⟨cb, 0, none⟩)]] w fun e w' => e = .returned (.int .i64 (pick s.times l : Nat)) ∧ Below w.heap.size w w' := by
  have HS := Lib.hid hs
  have HC := Lib.hid hc
  have HM := Lib.hid hm
  have H6 := Lib.hid hl6
  have hpos : 0 < l.length := List.length_pos_iff.2 hl0
  obtain ⟨r, cap, rfl, hbr, hrw⟩ := hv.form hpos
  have HV := Lib.hid hv
  have hcell : ∀ j b, l[j]? = some b → w.cell? ⟨r, j, none⟩ = some (.int .i64 (b : Nat)) := fun j b hj => by
    have hjl := (List.getElem?_eq_some_iff.1 hj).1
    rw [hv.cellAt j (by omega)]
    simp [natsV, hj]
  have HCL := Lib.hid hcell
  obtain ⟨x0, hx0⟩ : ∃ x, l[0]? = some x := ⟨_, List.getElem?_eq_getElem hpos⟩
  have c0 := hcell 0 x0 hx0
  have hx06 := hl6 x0 (List.mem_of_getElem? hx0)
  have HP1 := Lib.hid (show x0 = pick s.times (l.take 1) by
    cases l with
    | nil => simp at hx0
    | cons a l => simp at hx0; subst hx0; rfl)
  have hcw : cb < w.heap.size := World.block_lt_of_cell? w _ hc
  obtain ⟨n, hn⟩ : ∃ n, n = l.length := ⟨_, rfl⟩
  rw [← hn] at hpos hl ⊢
  have HN := Lib.hid hn
  have HL0 := Lib.hid hl0
  have q1 : decide ((n : Int) < 1) = false := decide_eq_false (by omega)
  have q1' : decide (n < 1) = false := decide_eq_false (by omega)
  clear hs hc hm hl6 hv hcell hx0 hn hl0 hbr
  go_enter Tryd.func53, Tryd.ntmps53
  go_wp2_with fail
  go_loopw [5, 6] (fun m ix wr => ∃ k mn : Nat, 1 ≤ k ∧ k ≤ n ∧ ix = .int .i64 k ∧ m = .int .i64 mn ∧ MinRel w wr B base g cb s l k mn) (fun _ ix _ => n - (intOf ix).toNat)
  case atStart => exact ⟨1, x0, by omega, by omega, rfl, rfl, HP1.out, hx06, Below.refl _ _⟩
  case round =>
    obtain ⟨k, mn, hk1, hk, rfl, rfl, hmn, hmn6, hb⟩ := hrel
    have HMN := Lib.hid hmn
    have HB := Lib.hid hb
    by_cases hlt : k < n
    · have q2 : decide (k < n) = true := decide_eq_true hlt
      obtain ⟨y, hy⟩ : ∃ y, l[k]? = some y := ⟨_, List.getElem?_eq_getElem (by have := HN.out; omega)⟩
      have hyc := HCL.out k y hy
      rw [← hb.cell (p := ⟨r, k, none⟩) hrw] at hyc
      have hy6 := H6.out y (List.mem_of_getElem? hy)
      have hcc : wr.cell? ⟨cb, 0, none⟩ = some (.pointer (some ⟨g, 0, none⟩)) := by rw [hb.cell (p := ⟨cb, 0, none⟩) hcw]; exact HC.out
      have HCC := Lib.hid hcc
      have HSN := Lib.hid (show pick s.times (l.take (k + 1)) = if s.times y < s.times mn then y else mn by
        have e1 : l.take (k + 1) = l.take k ++ [y] := by rw [List.take_add_one, hy]; rfl
        rw [e1, pick_snoc _ (fun e => by have h := congrArg List.length e; rw [List.length_take, List.length_nil] at h; have := HN.out; omega), ← hmn])
      clear hmn hb hy hcc c0
      go_wp2_with fail
      refine (cmp_walk _ B base g cb s y mn (HS.out.below HB.out) HCC.out hy6 hmn6 (HM.out y) (HM.out mn)).mono ?_
      rintro _ w5 ⟨rfl, hb5⟩
      have HB5 := Lib.hid (HB.out.trans (hb5.mono HB.out.size))
      rw [← hb5.cell (p := ⟨r, k, none⟩) (Nat.lt_of_lt_of_le hrw HB.out.size)] at hyc
      clear hb5
      obtain ⟨a, ha⟩ : ∃ a, a = s.times y := ⟨_, rfl⟩
      obtain ⟨b, hb⟩ : ∃ b, b = s.times mn := ⟨_, rfl⟩
      have HA := Lib.hid ha
      have HBB := Lib.hid hb
      rw [← ha, ← hb]
      clear ha hb
      by_cases hab : a < b
      · have q3 : decide ((a : Int) - (b : Int) < 0) = true := decide_eq_true (by omega)
        go_wp2_with fail
        go_roundw
        case rel => exact ⟨k + 1, y, by omega, by omega, by go_num, rfl, by rw [HSN.out, if_pos (by rw [← HA.out, ← HBB.out]; exact hab)], hy6, HB5.out⟩
        case measure => simp [intOf]; omega
      · have q3 : decide ((a : Int) - (b : Int) < 0) = false := decide_eq_false (by omega)
        go_wp2_with fail
        go_roundw
        case rel => exact ⟨k + 1, mn, by omega, by omega, by go_num, rfl, by rw [HSN.out, if_neg (by rw [← HA.out, ← HBB.out]; exact hab)], hmn6, HB5.out⟩
        case measure => simp [intOf]; omega
    · obtain rfl : k = n := by omega
      have q2 : decide (k < k) = false := decide_eq_false hlt
      have e1 : mn = pick s.times l := by rw [hmn, List.take_of_length_le (by have := HN.out; omega)]
      have HE := Lib.hid e1
      clear hmn hb e1
      go_wp2_with fail
      go_ret
      exact ⟨by rw [← HE.out]; rfl, HB.out⟩

end Go.Proofs.YtegibgflhhdddaaDoor
