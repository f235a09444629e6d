/- The disk in memory; stores into it. -/
import Derived.Test.YtegibgflhhdddaaDoorFtl2
import Derived.Test.YtegibgflhhdddaaDoorLfMath
import Derived.Deep.DeepCutAuto
import Derived.Deep.CutBlock
import Derived.Deep.RegionHeld3
namespace Go.Proofs.YtegibgflhhdddaaDoor.Lf
open Go.RowKit Ftl

def segN (a : Int) : Int := if a < 0 then 0 else a

structure DiskIs (w : World) (B base g : Nat) (s : Fl) : Prop where
  blen : s.blk.length = 6
  llen : s.loc.length = 8
  act : s.act < 6
  lo : B ≤ g ∧ g < base ∧ base ≤ w.heap.size
  rows : ∃ V : Nat → Value, (∀ b, b < 6 → w.cell? ⟨g, b, none⟩ = some (V b) ∧ w.ownsRow base 89 2 (V b) (s.row b).length (pagesV (s.row b))) ∧
    ∀ a b, a < 6 → b < 6 → a ≠ b → ∀ k, (V a).ownBlock = some k → (V b).ownBlock ≠ some k
  locs : ∀ p a i, s.loc[p]? = some (a, i) → w.cell? ⟨g, 6 + p * 3, none⟩ = some (.int .i64 (segN a)) ∧ w.cell? ⟨g, 6 + p * 3 + 1, none⟩ = some (.int .i64 (i : Nat)) ∧ w.cell? ⟨g, 6 + p * 3 + 2, none⟩ = some (.bool (decide (0 ≤ a)))
  acts : w.cell? ⟨g, 30, none⟩ = some (.int .i64 (s.act : Nat))
  free : ∀ o, w.frozen? ⟨g, o, none⟩ = false

theorem DiskIs.below {w w' : World} {B base g : Nat} {s : Fl} (h : DiskIs w B base g s) (hb : Below w.heap.size w w') : DiskIs w' B base g s := by
  obtain ⟨h1, h2, h4, lo, ⟨V, hV, hne⟩, h5, h7, h8⟩ := h
  have hg : g < w.heap.size := by omega
  have hc : ∀ o, w'.cell? ⟨g, o, none⟩ = w.cell? ⟨g, o, none⟩ := fun o => hb.cell (p := ⟨g, o, none⟩) hg
  exact ⟨h1, h2, h4, ⟨lo.1, lo.2.1, Nat.le_trans lo.2.2 hb.size⟩, ⟨V, fun b hb' => ⟨by rw [hc]; exact (hV b hb').1, ownsRow_later (hV b hb').2 hb⟩, hne⟩,
    fun p a i hp => by rw [hc, hc, hc]; exact h5 p a i hp, by rw [hc]; exact h7, fun o => by rw [hb.frozen (p := ⟨g, o, none⟩) hg]; exact h8 o⟩
theorem DiskIs.drewN {w : World} {B base g : Nat} {s : Fl} (h : DiskIs w B base g s) (n : Nat) : DiskIs (w.drewN n) B base g s := h.below (below_drewN' w n)
theorem DiskIs.drew {w : World} {B base g : Nat} {s : Fl} (h : DiskIs w B base g s) : DiskIs w.drew B base g s := h.below ⟨rfl, rfl, rfl, Nat.le_refl _, fun _ _ => rfl⟩

/-- what the disk's methods leave as it is -/
def KeptD (w w' : World) (g base : Nat) : Prop :=
  w.heap.size ≤ w'.heap.size ∧ ∀ x cur t fr, w.heap[x]? = some (.cells cur t fr) → x ≠ g → (t ≠ 89 ∨ x < base) → w'.heap[x]? = some (.cells cur t fr)
theorem KeptD.refl (w : World) (g base : Nat) : KeptD w w g base := ⟨Nat.le_refl _, fun _ _ _ _ h _ _ => h⟩
theorem KeptD.trans {a b c : World} {g base : Nat} (h : KeptD a b g base) (k : KeptD b c g base) : KeptD a c g base := ⟨Nat.le_trans h.1 k.1, fun x cur t fr h1 h2 h3 => k.2 x cur t fr (h.2 x cur t fr h1 h2 h3) h2 h3⟩
theorem KeptD.of_below {w w' : World} (g : Nat) {base : Nat} (h : Below w.heap.size w w') : KeptD w w' g base :=
  ⟨h.size, fun x cur t fr h1 _ _ => by rw [h.block x (Array.getElem?_eq_some_iff.1 h1).1]; exact h1⟩
theorem KeptD.grown_g {w w' : World} {g base : Nat} (hg : w.grownBy w' (some g)) : KeptD w w' g base :=
  ⟨hg.size, fun x cur ty fr hx hxg _ => by rw [hg.block x (Array.getElem?_eq_some_iff.1 hx).1 (by simp [hxg])]; exact hx⟩
theorem KeptD.drew {w w' : World} {g base : Nat} (h : KeptD w w' g base) : KeptD w w'.drew g base := h

theorem grown_more {a b c : World} {g : Option Nat} (h : a.grownBy b g) (k : b.grownBy c g) : a.grownBy c g :=
  ⟨k.os.trans h.os, k.tape.trans h.tape, k.output.trans h.output, Nat.le_trans h.size k.size, fun j hj hne => (k.block j (Nat.lt_of_lt_of_le hj h.size) hne).trans (h.block j hj hne)⟩

section
variable {w w' : World} {B base g : Nat} {s : Fl}

theorem set_oth (w : World) (g o : Nat) (v : Value) {q : Nat} (h : q ≠ o) : (w.setCell ⟨g, o, none⟩ v).cell? ⟨g, q, none⟩ = w.cell? ⟨g, q, none⟩ := by
  rw [World.cell?_setCell_other _ _ _ _ (by simp; try omega)]

theorem DiskIs.row_block {V : Nat → Value} (h : DiskIs w B base g s) {b : Nat} (hV : w.ownsRow base 89 2 (V b) (s.row b).length (pagesV (s.row b))) : (V b).ownBlock ≠ some g := by
  intro e
  have := hV.lt g e
  have := h.lo
  omega

theorem DiskIs.setLoc (h : DiskIs w B base g s) (p i a : Nat) (hp : p < 8) :
    DiskIs (((w.setCell ⟨g, 6 + p * 3, none⟩ (.int .i64 (a : Nat))).setCell ⟨g, 6 + p * 3 + 1, none⟩ (.int .i64 (i : Nat))).setCell ⟨g, 6 + p * 3 + 2, none⟩ (.bool true)) B base g { s with loc := s.loc.set p ((a : Int), i) } ∧
    w.grownBy (((w.setCell ⟨g, 6 + p * 3, none⟩ (.int .i64 (a : Nat))).setCell ⟨g, 6 + p * 3 + 1, none⟩ (.int .i64 (i : Nat))).setCell ⟨g, 6 + p * 3 + 2, none⟩ (.bool true)) (some g) := by
  obtain ⟨a0, i0, hl⟩ : ∃ a0 i0, s.loc[p]? = some (a0, i0) := ⟨_, _, List.getElem?_eq_getElem (by rw [h.llen]; exact hp)⟩
  obtain ⟨c1, c2, c3⟩ := h.locs p a0 i0 hl
  obtain ⟨w1, hw1⟩ : ∃ w1, w1 = w.setCell ⟨g, 6 + p * 3, none⟩ (.int .i64 (a : Nat)) := ⟨_, rfl⟩
  obtain ⟨w2, hw2⟩ : ∃ w2, w2 = w1.setCell ⟨g, 6 + p * 3 + 1, none⟩ (.int .i64 (i : Nat)) := ⟨_, rfl⟩
  obtain ⟨w3, hw3⟩ : ∃ w3, w3 = w2.setCell ⟨g, 6 + p * 3 + 2, none⟩ (.bool true) := ⟨_, rfl⟩
  rw [← hw1, ← hw2, ← hw3]
  have g1 : w.grownBy w1 (some g) := by rw [hw1]; exact grown_set w g _ _
  have g2 : w1.grownBy w2 (some g) := by rw [hw2]; exact grown_set w1 g _ _
  have g3 : w2.grownBy w3 (some g) := by rw [hw3]; exact grown_set w2 g _ _
  have o1 : ∀ o, o ≠ 6 + p * 3 → w1.cell? ⟨g, o, none⟩ = w.cell? ⟨g, o, none⟩ := fun o ho => by rw [hw1]; exact set_oth w g _ _ ho
  have o2 : ∀ o, o ≠ 6 + p * 3 + 1 → w2.cell? ⟨g, o, none⟩ = w1.cell? ⟨g, o, none⟩ := fun o ho => by rw [hw2]; exact set_oth w1 g _ _ ho
  have o3 : ∀ o, o ≠ 6 + p * 3 + 2 → w3.cell? ⟨g, o, none⟩ = w2.cell? ⟨g, o, none⟩ := fun o ho => by rw [hw3]; exact set_oth w2 g _ _ ho
  have e1 : w1.cell? ⟨g, 6 + p * 3, none⟩ = some (.int .i64 (a : Nat)) := by rw [hw1]; exact World.cell?_setCell_same _ _ _ c1
  have e2 : w2.cell? ⟨g, 6 + p * 3 + 1, none⟩ = some (.int .i64 (i : Nat)) := by rw [hw2]; exact World.cell?_setCell_same _ _ _ (u := .int .i64 (i0 : Nat)) (by rw [o1 _ (by omega)]; exact c2)
  have e3 : w3.cell? ⟨g, 6 + p * 3 + 2, none⟩ = some (.bool true) := by rw [hw3]; exact World.cell?_setCell_same _ _ _ (u := .bool (decide (0 ≤ a0))) (by rw [o2 _ (by omega), o1 _ (by omega)]; exact c3)
  have hoth : ∀ o, o ≠ 6 + p * 3 → o ≠ 6 + p * 3 + 1 → o ≠ 6 + p * 3 + 2 → w3.cell? ⟨g, o, none⟩ = w.cell? ⟨g, o, none⟩ := fun o h1 h2 h3 => by rw [o3 _ h3, o2 _ h2, o1 _ h1]
  have hgg : w.grownBy w3 (some g) := grown_more g1 (grown_more g2 g3)
  have hfr : ∀ o, w3.frozen? ⟨g, o, none⟩ = w.frozen? ⟨g, o, none⟩ := fun o => by rw [hw3, World.frozen?_setCell, hw2, World.frozen?_setCell, hw1, World.frozen?_setCell]
  obtain ⟨V, hV, hne⟩ := h.rows
  refine ⟨⟨h.blen, by simp [h.llen], h.act, ⟨h.lo.1, h.lo.2.1, Nat.le_trans h.lo.2.2 hgg.size⟩, ⟨V, fun b hb => ⟨?_, ?_⟩, hne⟩, fun q a' i' hq => ?_, ?_, fun o => ?_⟩, hgg⟩
  · rw [hoth b (by omega) (by omega) (by omega)]; exact (hV b hb).1
  · exact (hV b hb).2.kept hgg (.inr (h.row_block (hV b hb).2))
  · by_cases hpq : q = p
    · subst hpq
      simp [h.llen, hp] at hq
      obtain ⟨rfl, rfl⟩ := hq
      refine ⟨?_, ?_, ?_⟩
      · rw [o3 _ (by omega), o2 _ (by omega), e1]
        unfold segN
        rw [if_neg (by omega)]
      · rw [o3 _ (by omega), e2]
      · rw [e3, decide_eq_true (by omega : (0 : Int) ≤ (a : Int))]
    · simp only at hq
      rw [List.getElem?_set_ne (by omega)] at hq
      rw [hoth _ (by omega) (by omega) (by omega), hoth _ (by omega) (by omega) (by omega), hoth _ (by omega) (by omega) (by omega)]
      exact h.locs q a' i' hq
  · have hact : (30 : Nat) ≠ 6 + p * 3 ∧ (30 : Nat) ≠ 6 + p * 3 + 1 ∧ (30 : Nat) ≠ 6 + p * 3 + 2 := by omega
    rw [hoth _ hact.1 hact.2.1 hact.2.2]
    exact h.acts
  · rw [hfr]; exact h.free o

theorem DiskIs.setAct (h : DiskIs w B base g s) (b : Nat) (hb : b < 6) :
    DiskIs (w.setCell ⟨g, 30, none⟩ (.int .i64 (b : Nat))) B base g { s with act := b } ∧ w.grownBy (w.setCell ⟨g, 30, none⟩ (.int .i64 (b : Nat))) (some g) := by
  have hg := grown_set w g 30 (.int .i64 (b : Nat))
  have hs : (w.setCell ⟨g, 30, none⟩ (.int .i64 (b : Nat))).cell? ⟨g, 30, none⟩ = some (.int .i64 (b : Nat)) := World.cell?_setCell_same _ _ _ h.acts
  have ho : ∀ q, q ≠ 30 → (w.setCell ⟨g, 30, none⟩ (.int .i64 (b : Nat))).cell? ⟨g, q, none⟩ = w.cell? ⟨g, q, none⟩ := fun q hq => set_oth w g 30 _ hq
  have hf : ∀ o, (w.setCell ⟨g, 30, none⟩ (.int .i64 (b : Nat))).frozen? ⟨g, o, none⟩ = false := fun o => by rw [World.frozen?_setCell]; exact h.free o
  generalize w.setCell ⟨g, 30, none⟩ (.int .i64 (b : Nat)) = w2 at *
  obtain ⟨V, hV, hne⟩ := h.rows
  refine ⟨⟨h.blen, h.llen, hb, ⟨h.lo.1, h.lo.2.1, Nat.le_trans h.lo.2.2 hg.size⟩, ⟨V, fun c hc => ⟨by rw [ho c (by omega)]; exact (hV c hc).1, (hV c hc).2.kept hg (.inr (h.row_block (hV c hc).2))⟩, hne⟩, fun p a i hp => ?_, hs, hf⟩, hg⟩
  have hp8 : p < 8 := by have := (List.getElem?_eq_some_iff.1 hp).1; rw [h.llen] at this; exact this
  rw [ho _ (by omega), ho _ (by omega), ho _ (by omega)]
  exact h.locs p a i hp

theorem DiskIs.setNil (h : DiskIs w B base g s) (b : Nat) (hb : b < 6) :
    DiskIs (w.setCell ⟨g, b, none⟩ (.slice none 0 0)) B base g { s with blk := s.blk.set b [] } ∧ w.grownBy (w.setCell ⟨g, b, none⟩ (.slice none 0 0)) (some g) := by
  have hg := grown_set w g b (.slice none 0 0)
  obtain ⟨V, hV, hne⟩ := h.rows
  have hs : (w.setCell ⟨g, b, none⟩ (.slice none 0 0)).cell? ⟨g, b, none⟩ = some (.slice none 0 0) := World.cell?_setCell_same _ _ _ (hV b hb).1
  have ho : ∀ q, q ≠ b → (w.setCell ⟨g, b, none⟩ (.slice none 0 0)).cell? ⟨g, q, none⟩ = w.cell? ⟨g, q, none⟩ := fun q hq => set_oth w g _ _ hq
  have hf : ∀ o, (w.setCell ⟨g, b, none⟩ (.slice none 0 0)).frozen? ⟨g, o, none⟩ = false := fun o => by rw [World.frozen?_setCell]; exact h.free o
  have hrow : ∀ c, (Fl.mk (s.blk.set b []) s.loc s.er s.act).row c = if b = c then [] else s.row c := fun c => Fl.row_set s b c _ _ _ _ (by rw [h.blen]; exact hb)
  generalize w.setCell ⟨g, b, none⟩ (.slice none 0 0) = w2 at *
  refine ⟨⟨by simp [h.blen], h.llen, h.act, ⟨h.lo.1, h.lo.2.1, Nat.le_trans h.lo.2.2 hg.size⟩, ⟨fun c => if c = b then .slice none 0 0 else V c, fun c hc => ?_, fun x y hx hy hxy k hk => ?_⟩, fun p a i hp => ?_, by rw [ho _ (by omega)]; exact h.acts, hf⟩, hg⟩
  · rw [hrow]
    show w2.cell? ⟨g, c, none⟩ = some (if c = b then .slice none 0 0 else V c) ∧ w2.ownsRow base 89 2 (if c = b then .slice none 0 0 else V c) _ _
    by_cases hcb : c = b
    · subst hcb
      rw [if_pos rfl, if_pos rfl]
      exact ⟨hs, World.ownsRow_nil _ _ _ _⟩
    · rw [if_neg hcb, if_neg (fun e => hcb e.symm), ho c hcb]
      exact ⟨(hV c hc).1, (hV c hc).2.kept hg (.inr (h.row_block (hV c hc).2))⟩
  · simp only at hk ⊢
    by_cases hxb : x = b
    · rw [if_pos hxb] at hk; simp [Value.ownBlock] at hk
    · rw [if_neg hxb] at hk
      by_cases hyb : y = b
      · rw [if_pos hyb]; simp [Value.ownBlock]
      · rw [if_neg hyb]; exact hne x y hx hy hxy k hk
  · have hp8 : p < 8 := by have := (List.getElem?_eq_some_iff.1 hp).1; rw [h.llen] at this; exact this
    rw [ho _ (by omega), ho _ (by omega), ho _ (by omega)]
    exact h.locs p a i hp

theorem DiskIs.len {b : Nat} (h : DiskIs w B base g s) (hb : b < 6) : ∃ va cap, w.cell? ⟨g, b, none⟩ = some (.slice va (s.row b).length cap) := by
  obtain ⟨V, hV, -⟩ := h.rows
  obtain ⟨c0, hown⟩ := hV b hb
  obtain ⟨va, cap, hva⟩ := own_shape' hown
  exact ⟨va, cap, by rw [c0, hva]⟩
end

def zeroDk : Array Value := #[.slice none 0 0, .slice none 0 0, .slice none 0 0, .slice none 0 0, .slice none 0 0, .slice none 0 0, .int .i64 0, .int .i64 0, .bool false, .int .i64 0, .int .i64 0, .bool false, .int .i64 0, .int .i64 0, .bool false, .int .i64 0, .int .i64 0, .bool false,
  .int .i64 0, .int .i64 0, .bool false, .int .i64 0, .int .i64 0, .bool false, .int .i64 0, .int .i64 0, .bool false, .int .i64 0, .int .i64 0, .bool false, .int .i64 0]
theorem new_row (b : Nat) : Fl.new.row b = [] := by
  simp only [Fl.row, Fl.new, List.getElem?_replicate]; split <;> rfl
theorem DiskIs.fresh (w : World) : DiskIs (w.alloc (.cells zeroDk 85)) w.heap.size (w.heap.size + 1) w.heap.size Fl.new := by
  have hc : ∀ o, (w.alloc (.cells zeroDk 85)).cell? ⟨w.heap.size, o, none⟩ = zeroDk[o]? := fun o => by rw [World.cell?_alloc_at _ _ _ _ rfl]
  refine ⟨rfl, rfl, by decide, ⟨Nat.le_refl _, by omega, by simp⟩, ⟨fun _ => .slice none 0 0, fun b hb => ⟨?_, by rw [new_row]; exact World.ownsRow_nil _ _ _ _⟩, fun a b _ _ _ k hk => by simp [Value.ownBlock] at hk⟩, fun p a i hp => ?_, by rw [hc]; rfl, fun o => by simp⟩
  · rw [hc]
    have hk : b = 0 ∨ b = 1 ∨ b = 2 ∨ b = 3 ∨ b = 4 ∨ b = 5 := by omega
    rcases hk with rfl | rfl | rfl | rfl | rfl | rfl <;> rfl
  · have hp8 : p < 8 := (List.getElem?_eq_some_iff.1 hp).1
    rw [hc, hc, hc]
    have hk : p = 0 ∨ p = 1 ∨ p = 2 ∨ p = 3 ∨ p = 4 ∨ p = 5 ∨ p = 6 ∨ p = 7 := by omega
    rcases hk with rfl | rfl | rfl | rfl | rfl | rfl | rfl | rfl <;> (simp [Fl.new] at hp; obtain ⟨rfl, rfl⟩ := hp; exact ⟨rfl, rfl, rfl⟩)

theorem fresh_nil (w : World) : ∀ b, b < 6 → (w.alloc (.cells zeroDk 85)).cell? ⟨w.heap.size, b, none⟩ = some (.slice none 0 0) := fun b hb => by
  rw [World.cell?_alloc_at _ _ _ _ rfl]
  have hk : b = 0 ∨ b = 1 ∨ b = 2 ∨ b = 3 ∨ b = 4 ∨ b = 5 := by omega
  rcases hk with rfl | rfl | rfl | rfl | rfl | rfl <;> rfl
theorem DiskIs.raise {w : World} {B base base' g : Nat} {s : Fl} (h : DiskIs w B base g s) (hn : ∀ b, b < 6 → w.cell? ⟨g, b, none⟩ = some (.slice none 0 0)) (h1 : g < base') (h2 : base' ≤ w.heap.size) : DiskIs w B base' g s := by
  obtain ⟨V, hV, -⟩ := h.rows
  refine ⟨h.blen, h.llen, h.act, ⟨h.lo.1, h1, h2⟩, ⟨fun _ => .slice none 0 0, fun b hb => ⟨hn b hb, ?_⟩, fun a b _ _ _ k hk => by simp [Value.ownBlock] at hk⟩, h.locs, h.acts, h.free⟩
  obtain ⟨k1, k2⟩ := hV b hb
  have e : V b = .slice none 0 0 := by
    rw [hn b hb] at k1
    exact (Option.some.inj k1).symm
  rw [e] at k2
  have hl : (s.row b).length = 0 := by
    rcases k2.2 with ⟨-, h0⟩ | ⟨g', cap', cur, h0, -⟩
    · exact h0
    · cases h0
  have hr : s.row b = [] := List.length_eq_zero_iff.1 hl
  rw [hr]
  exact World.ownsRow_nil _ _ _ _

set_option maxRecDepth 100000 in
set_option maxHeartbeats 1000000 in
theorem lnew_walk (w : World) : Calls Tryd.prog 32 #[] w fun e w' => e = .returned (.pointer (some ⟨w.heap.size, 0, none⟩)) ∧ DiskIs w' w.heap.size (w.heap.size + 1) w.heap.size Fl.new ∧ (∀ b, b < 6 → w'.cell? ⟨w.heap.size, b, none⟩ = some (.slice none 0 0)) ∧ Below w.heap.size w w' := by
  have HF := Lib.hid (DiskIs.fresh w)
  have HN := Lib.hid (fresh_nil w)
  go_enter Tryd.func32, Tryd.ntmps32
  go_wp2_with fail
  go_ret
  exact ⟨rfl, HF.out, HN.out, (Below.refl _ _).alloc (Nat.le_refl _) _⟩

theorem eqSpot (a b c d : Int) (e f : Bool) (w : World) : (Op.equalIn 10000 82 (.agg #[.int .i64 a, .int .i64 b, .bool e]) (.agg #[.int .i64 c, .int .i64 d, .bool f])).run Tryd.prog w = .ok (a == c && b == d && e == f) w := by
  have hst : Tryd.prog.stoodInHeld 82 = false := by kernel_rfl
  have u3 := Tryd.underlying3
  have a3 := Tryd.isAgg3
  have z3 := Tryd.sizeOf3
  have u4 := Tryd.underlying4
  have a4 := Tryd.isAgg4
  have z4 := Tryd.sizeOf4
  rw [show (10000 : Nat) = 9999 + 1 from rfl, Op.equalIn]
  simp only [Sem.run_bind, run_underlying Tryd.underlying82, Result.andThen_ok]
  go_simp
  by_cases h1 : a = c <;> by_cases h2 : b = d <;> cases e <;> cases f <;> simp [h1, h2]

end Go.Proofs.YtegibgflhhdddaaDoor.Lf
