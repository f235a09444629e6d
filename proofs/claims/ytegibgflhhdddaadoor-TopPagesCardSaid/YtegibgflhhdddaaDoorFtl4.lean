/- Stores into the flash; the walks of Active, Read, Block. -/
import Derived.Test.YtegibgflhhdddaaDoorFtl2
import Derived.Deep.RegionHeld3
namespace Go.Proofs.YtegibgflhhdddaaDoor
open Go.RowKit Ftl

section
variable {w : World} {B base g : Nat} {s : Fl}

theorem set_oth (w : World) (g o : Nat) (v : Value) {q : Nat} (h : q ≠ o) : (w.setCell ⟨g, o, none⟩ v).cell? ⟨g, q, none⟩ = w.cell? ⟨g, q, none⟩ := by
  rw [World.cell?_setCell_other _ _ _ _ (by simp; try omega)]

theorem FlashIs.setAct (h : FlashIs w B base g s) (b : Nat) (hb : b < 6) :
    FlashIs (w.setCell ⟨g, 28, none⟩ (.int .i64 (b : Nat))) B base g { s with act := b } ∧ w.grownBy (w.setCell ⟨g, 28, none⟩ (.int .i64 (b : Nat))) (some g) := by
  have hg := grown_set w g 28 (.int .i64 (b : Nat))
  have hs : (w.setCell ⟨g, 28, none⟩ (.int .i64 (b : Nat))).cell? ⟨g, 28, none⟩ = some (.int .i64 (b : Nat)) := World.cell?_setCell_same _ _ _ h.acts
  have ho : ∀ q, q ≠ 28 → (w.setCell ⟨g, 28, none⟩ (.int .i64 (b : Nat))).cell? ⟨g, q, none⟩ = w.cell? ⟨g, q, none⟩ := fun q hq => set_oth w g 28 _ hq
  have hf : ∀ o, (w.setCell ⟨g, 28, none⟩ (.int .i64 (b : Nat))).frozen? ⟨g, o, none⟩ = false := fun o => by rw [World.frozen?_setCell]; exact h.free o
  generalize w.setCell ⟨g, 28, none⟩ (.int .i64 (b : Nat)) = w2 at *
  obtain ⟨V, hV, hne⟩ := h.rows
  refine ⟨⟨h.blen, h.llen, h.elen, hb, ⟨h.lo.1, h.lo.2.1, Nat.le_trans h.lo.2.2 hg.size⟩, ⟨V, fun c hc => ⟨by rw [ho c (by omega)]; exact (hV c hc).1, (hV c hc).2.kept hg (.inr (h.row_block (hV c hc).2))⟩, hne⟩, fun p a i hp => ?_, fun c n hn => ?_, hs, hf⟩, hg⟩
  · have hp8 : p < 8 := by have := (List.getElem?_eq_some_iff.1 hp).1; rw [h.llen] at this; exact this
    rw [ho _ (by omega), ho _ (by omega)]
    exact h.locs p a i hp
  · have hc6 : c < 6 := by have := (List.getElem?_eq_some_iff.1 hn).1; rw [h.elen] at this; exact this
    rw [ho _ (by omega)]
    exact h.ers c n hn

theorem FlashIs.setEr (h : FlashIs w B base g s) (b n : Nat) (hb : b < 6) :
    FlashIs (w.setCell ⟨g, 22 + b, none⟩ (.int .i64 (n : Nat))) B base g { s with er := s.er.set b n } ∧ w.grownBy (w.setCell ⟨g, 22 + b, none⟩ (.int .i64 (n : Nat))) (some g) := by
  have hg := grown_set w g (22 + b) (.int .i64 (n : Nat))
  have hs : (w.setCell ⟨g, 22 + b, none⟩ (.int .i64 (n : Nat))).cell? ⟨g, 22 + b, none⟩ = some (.int .i64 (n : Nat)) := World.cell?_setCell_same _ _ _ (h.ers b (s.er[b]'(by rw [h.elen]; exact hb)) (List.getElem?_eq_getElem _))
  have ho : ∀ q, q ≠ 22 + b → (w.setCell ⟨g, 22 + b, none⟩ (.int .i64 (n : Nat))).cell? ⟨g, q, none⟩ = w.cell? ⟨g, q, none⟩ := fun q hq => set_oth w g _ _ hq
  have hf : ∀ o, (w.setCell ⟨g, 22 + b, none⟩ (.int .i64 (n : Nat))).frozen? ⟨g, o, none⟩ = false := fun o => by rw [World.frozen?_setCell]; exact h.free o
  generalize w.setCell ⟨g, 22 + b, none⟩ (.int .i64 (n : Nat)) = w2 at *
  obtain ⟨V, hV, hne⟩ := h.rows
  refine ⟨⟨h.blen, h.llen, by simp [h.elen], h.act, ⟨h.lo.1, h.lo.2.1, Nat.le_trans h.lo.2.2 hg.size⟩, ⟨V, fun c hc => ⟨by rw [ho c (by omega)]; exact (hV c hc).1, (hV c hc).2.kept hg (.inr (h.row_block (hV c hc).2))⟩, hne⟩, fun p a i hp => ?_, fun c m hn => ?_, by rw [ho _ (by omega)]; exact h.acts, hf⟩, hg⟩
  · have hp8 : p < 8 := by have := (List.getElem?_eq_some_iff.1 hp).1; rw [h.llen] at this; exact this
    rw [ho _ (by omega), ho _ (by omega)]
    exact h.locs p a i hp
  · have hc6 : c < 6 := by have := (List.getElem?_eq_some_iff.1 hn).1; simp [h.elen] at this; exact this
    simp only at hn
    by_cases hcb : c = b
    · subst hcb
      rw [List.getElem?_set_self (by rw [h.elen]; exact hb)] at hn
      cases hn
      exact hs
    · rw [List.getElem?_set_ne (by omega)] at hn
      rw [ho _ (by omega)]
      exact h.ers c m hn

theorem FlashIs.setNil (h : FlashIs w B base g s) (b : Nat) (hb : b < 6) :
    FlashIs (w.setCell ⟨g, b, none⟩ (.slice none 0 0)) B base g { s with blk := s.blk.set b [] } ∧ w.grownBy (w.setCell ⟨g, b, none⟩ (.slice none 0 0)) (some g) := by
  have hg := grown_set w g b (.slice none 0 0)
  obtain ⟨V, hV, hne⟩ := h.rows
  have hs : (w.setCell ⟨g, b, none⟩ (.slice none 0 0)).cell? ⟨g, b, none⟩ = some (.slice none 0 0) := World.cell?_setCell_same _ _ _ (hV b hb).1
  have ho : ∀ q, q ≠ b → (w.setCell ⟨g, b, none⟩ (.slice none 0 0)).cell? ⟨g, q, none⟩ = w.cell? ⟨g, q, none⟩ := fun q hq => set_oth w g _ _ hq
  have hf : ∀ o, (w.setCell ⟨g, b, none⟩ (.slice none 0 0)).frozen? ⟨g, o, none⟩ = false := fun o => by rw [World.frozen?_setCell]; exact h.free o
  have hrow : ∀ c, (Fl.mk (s.blk.set b []) s.loc s.er s.act).row c = if b = c then [] else s.row c := fun c => Fl.row_set s b c _ _ _ _ (by rw [h.blen]; exact hb)
  generalize w.setCell ⟨g, b, none⟩ (.slice none 0 0) = w2 at *
  refine ⟨⟨by simp [h.blen], h.llen, h.elen, h.act, ⟨h.lo.1, h.lo.2.1, Nat.le_trans h.lo.2.2 hg.size⟩, ⟨fun c => if c = b then .slice none 0 0 else V c, fun c hc => ?_, fun x y hx hy hxy k hk => ?_⟩, fun p a i hp => ?_, fun c m hn => ?_, by rw [ho _ (by omega)]; exact h.acts, hf⟩, hg⟩
  · rw [hrow]
    show w2.cell? ⟨g, c, none⟩ = some (if c = b then .slice none 0 0 else V c) ∧ w2.ownsRow base 68 2 (if c = b then .slice none 0 0 else V c) _ _
    by_cases hcb : c = b
    · subst hcb
      rw [if_pos rfl, if_pos rfl]
      exact ⟨hs, World.ownsRow_nil _ _ _ _⟩
    · rw [if_neg hcb, if_neg (fun e => hcb e.symm), ho c hcb]
      exact ⟨(hV c hc).1, (hV c hc).2.kept hg (.inr (h.row_block (hV c hc).2))⟩
  · simp only at hk ⊢
    by_cases hxb : x = b
    · rw [if_pos hxb] at hk; simp [Value.ownBlock] at hk
    · rw [if_neg hxb] at hk
      by_cases hyb : y = b
      · rw [if_pos hyb]; simp [Value.ownBlock]
      · rw [if_neg hyb]; exact hne x y hx hy hxy k hk
  · have hp8 : p < 8 := by have := (List.getElem?_eq_some_iff.1 hp).1; rw [h.llen] at this; exact this
    rw [ho _ (by omega), ho _ (by omega)]
    exact h.locs p a i hp
  · rw [ho _ (by omega)]
    exact h.ers c m hn

end

theorem within_anyF (a b c : Int) (w : World) :
    Calls Tryd.prog 38 #[.int .i64 a, .int .i64 b, .int .i64 c] w fun e w' => e = .returned (.bool (decide (b ≤ a ∧ a ≤ c))) ∧ w = w' := by
  by_cases h1 : b ≤ a
  · have q1 : decide (b ≤ a) = true := decide_eq_true h1
    by_cases h2 : a ≤ c
    · have q2 : decide (a ≤ c) = true := decide_eq_true h2
      go_enter Tryd.func38, Tryd.ntmps38
      go_wp2
      go_ret
      exact ⟨by simp [h1, h2], rfl⟩
    · have q2 : decide (a ≤ c) = false := decide_eq_false h2
      go_enter Tryd.func38, Tryd.ntmps38
      go_wp2
      go_ret
      exact ⟨by simp, rfl⟩
  · have q1 : decide (b ≤ a) = false := decide_eq_false h1
    go_enter Tryd.func38, Tryd.ntmps38
    go_wp2
    go_ret
    exact ⟨by simp, rfl⟩

theorem active_walk (w : World) (B base g : Nat) (s : Fl) (hs : FlashIs w B base g s) :
    Calls Tryd.prog 12 #[.pointer (some ⟨g, 0, none⟩)] w fun e w' => e = .returned (.int .i64 (s.act : Nat)) ∧ w = w' := by
  have h := hs.acts
  clear hs
  go_enter Tryd.func12, Tryd.ntmps12
  go_wp2_with fail
  go_ret
  exact ⟨rfl, rfl⟩

set_option maxHeartbeats 1000000 in
theorem read_no (w : World) (g : Nat) (p : Int) (hp : ¬ (0 ≤ p ∧ p ≤ 7)) :
    Calls Tryd.prog 16 #[.pointer (some ⟨g, 0, none⟩), .int .i64 p] w fun e w' => e = .returned (.tuple #[.int .i64 0, .iface 64 (.int .i64 1)]) ∧ w = w' := by
  have D := Lib.hid (decide_eq_false hp)
  clear hp
  go_enter Tryd.func16, Tryd.ntmps16
  go_wp2_with fail
  refine (within_anyF _ _ _ _).mono ?_
  rw [D.out]
  rintro _ w1 ⟨rfl, rfl⟩
  go_wp2_with fail
  go_ret2
  exact ⟨rfl, rfl⟩

set_option maxRecDepth 100000 in
set_option maxHeartbeats 2000000 in
theorem read_walk (w : World) (B base g : Nat) (s : Fl) (p : Nat) (hs : FlashIs w B base g s) (hok : Ok s) (hp : p < 8) :
    Calls Tryd.prog 16 #[.pointer (some ⟨g, 0, none⟩), .int .i64 (p : Nat)] w fun e w' => e = .returned (.tuple #[.int .i64 (s.val p), .nilIface]) ∧ Below w.heap.size w w' := by
  have D := Lib.hid (decide_eq_true (show (0 : Int) ≤ (p : Int) ∧ (p : Int) ≤ 7 by omega))
  have hp8 : (p : Int) < 8 := by omega
  have hgw : g < w.heap.size := by have := hs.lo; omega
  rcases hok.lies p hp (by simp) with hl | ⟨b, i, v, hb, hl, hr⟩
  · obtain ⟨c1, c2⟩ := hs.locs p _ _ hl
    have HV := Lib.hid (show s.val p = 0 by unfold Fl.val; rw [hl]; rfl)
    simp only [Int.natCast_zero] at c2
    clear hs hok hl
    go_enter Tryd.func16, Tryd.ntmps16
    go_wp2_with fail
    refine (within_anyF _ _ _ _).mono ?_
    rw [D.out]
    rintro _ w1 ⟨rfl, rfl⟩
    go_wp2_with fail
    go_ret2
    exact ⟨by rw [HV.out]; rfl, (Below.refl _ _).alloc (Nat.le_refl _) _⟩
  · obtain ⟨c1, c2⟩ := hs.locs p _ _ hl
    have HV := Lib.hid (show s.val p = v by unfold Fl.val; rw [hl]; simp only [Int.toNat_natCast]; rw [if_neg (by omega), hr]; rfl)
    obtain ⟨V, hV, -⟩ := hs.rows
    obtain ⟨c0, hown⟩ := hV b hb
    have hlen := (List.getElem?_eq_some_iff.1 hr).1
    obtain ⟨r, cap, hva, hbr, hrw⟩ := hown.form (by omega)
    rw [hva] at c0 hown
    have e2 := hown.cellAt (i * 2 + 1) (by omega)
    rw [(pagesV_at hr).2] at e2
    simp only at e2
    have hi4 : i < 4 := by have := hok.small b; omega
    obtain ⟨n, hn⟩ : ∃ n, n = (s.row b).length := ⟨_, rfl⟩
    rw [← hn] at c0 hlen
    have hin : (i : Int) < (n : Int) := by omega
    have hi0 : (0 : Int) ≤ (i : Int) := by omega
    have hb6 : (b : Int) < 6 := by omega
    have hb0 : (0 : Int) ≤ (b : Int) := by omega
    have q1 : decide ((b : Int) < 0) = false := decide_eq_false (by omega)
    clear hs hok hl hV hown hva hr hn hbr
    go_enter Tryd.func16, Tryd.ntmps16
    go_wp2_with fail
    refine (within_anyF _ _ _ _).mono ?_
    rw [D.out]
    rintro _ w1 ⟨rfl, rfl⟩
    go_wp2_with fail
    go_quiet (fail)
    go_wp2_with fail
    go_ret2
    exact ⟨by rw [HV.out]; rfl, below_drewN ((Below.refl _ _).alloc (Nat.le_refl _) _) _⟩

theorem block_no (w : World) (g : Nat) (p : Int) (hp : ¬ (0 ≤ p ∧ p ≤ 5)) :
    Calls Tryd.prog 13 #[.pointer (some ⟨g, 0, none⟩), .int .i64 p] w fun e w' => e = .returned (.tuple #[.int .i64 0, .int .i64 0, .int .i64 0]) ∧ w = w' := by
  have D := Lib.hid (decide_eq_false hp)
  clear hp
  go_enter Tryd.func13, Tryd.ntmps13
  go_wp2_with fail
  refine (within_anyF _ _ _ _).mono ?_
  rw [D.out]
  rintro _ w1 ⟨rfl, rfl⟩
  go_wp2_with fail
  go_ret3
  exact ⟨rfl, rfl⟩

set_option maxRecDepth 100000 in
set_option maxHeartbeats 4000000 in
theorem block_walk (w : World) (B base g : Nat) (s : Fl) (b : Nat) (hs : FlashIs w B base g s) (hok : Ok s) (hb : b < 6) :
    Calls Tryd.prog 13 #[.pointer (some ⟨g, 0, none⟩), .int .i64 (b : Nat)] w fun e w' => e = .returned (.tuple #[.int .i64 ((s.row b).length : Nat), .int .i64 ((s.live b).length : Nat), .int .i64 (s.times b : Nat)]) ∧ Below w.heap.size w w' := by
  have D := Lib.hid (decide_eq_true (show (0 : Int) ≤ (b : Int) ∧ (b : Int) ≤ 5 by omega))
  have hb6 : (b : Int) < 6 := by omega
  have hb0 : (0 : Int) ≤ (b : Int) := by omega
  have hgw : g < w.heap.size := by have := hs.lo; omega
  have HOK := Lib.hid hok
  obtain ⟨V, hV, -⟩ := hs.rows
  obtain ⟨c0, hown⟩ := hV b hb
  obtain ⟨va, cap, hva⟩ := own_shape' hown
  rw [hva] at c0
  have hle : (s.live b).length ≤ 4 := Nat.le_trans (s.liveTo_length b _) (hok.small b)
  have he := hs.ers b (s.times b) (by unfold Fl.times; rw [List.getElem?_eq_getElem (by rw [hs.elen]; exact hb)]; rfl)
  obtain ⟨n, hn⟩ : ∃ n, n = (s.row b).length := ⟨_, rfl⟩
  obtain ⟨m, hm⟩ : ∃ m, m = (s.live b).length := ⟨_, rfl⟩
  obtain ⟨t, ht⟩ : ∃ t, t = s.times b := ⟨_, rfl⟩
  rw [← hn] at c0 ⊢
  rw [← hm] at hle ⊢
  rw [← ht] at he ⊢
  have HM := Lib.hid hm
  have hS0 : w.drew.cell? ⟨g, b, none⟩ = some (.slice va n cap) ∧ w.drew.cell? ⟨g, 22 + b, none⟩ = some (.int .i64 (t : Nat)) ∧ FlashIs w.drew B base g s ∧ Below w.heap.size w w.drew := ⟨c0, he, hs.below ⟨rfl, rfl, rfl, Nat.le_refl _, fun _ _ => rfl⟩, (Below.refl _ _).drew⟩
  have LATER : ∀ (w4 w5 : World), (w4.cell? ⟨g, b, none⟩ = some (.slice va n cap) ∧ w4.cell? ⟨g, 22 + b, none⟩ = some (.int .i64 (t : Nat)) ∧ FlashIs w4 B base g s ∧ Below w.heap.size w w4) → Below w4.heap.size w4 w5 →
      (w5.cell? ⟨g, b, none⟩ = some (.slice va n cap) ∧ w5.cell? ⟨g, 22 + b, none⟩ = some (.int .i64 (t : Nat)) ∧ FlashIs w5 B base g s ∧ Below w.heap.size w w5) := by
    rintro w4 w5 ⟨h1, h2, h3, h4⟩ h5
    have hg4 : g < w4.heap.size := by have := h3.lo; omega
    exact ⟨by rw [h5.cell (p := ⟨g, b, none⟩) hg4]; exact h1, by rw [h5.cell (p := ⟨g, 22 + b, none⟩) hg4]; exact h2, h3.below h5, h4.trans (h5.mono h4.size)⟩
  have HLAT := Lib.hid LATER
  have H0 := Lib.hid hS0
  clear hs hok hV hown hva hn hm ht LATER hS0 c0 he
  go_enter Tryd.func13, Tryd.ntmps13
  go_wp2_with fail
  refine (within_anyF _ _ _ _).mono ?_
  rw [D.out]
  rintro _ w1 ⟨rfl, rfl⟩
  go_wp2_with fail
  go_region_held3 (fun w' => w'.cell? ⟨g, b, none⟩ = some (.slice va n cap) ∧ w'.cell? ⟨g, 22 + b, none⟩ = some (.int .i64 (t : Nat)) ∧ FlashIs w' B base g s ∧ Below w.heap.size w w')
    (first
      | assumption
      | exact H0.out
      | exact HLAT.out _ _ (by assumption) hb5)
    (first
      | (go_at_call 41; refine (live_walk _ B base g s b (And.left (And.right (And.right (by assumption)))) hb (HOK.out.small b) (HOK.out.page b)).mono ?_; rintro _ w5 ⟨u, rfl, hu, hb5⟩; obtain ⟨ua, uc, rfl⟩ := own_shape' hu; rw [← HM.out]))
  go_wp2_with fail
  go_ret3
  exact ⟨rfl, And.right (And.right (And.right (by assumption)))⟩

end Go.Proofs.YtegibgflhhdddaaDoor
