/- The flash in memory. -/
import Derived.Test.YtegibgflhhdddaaDoorProg
import Derived.Test.YtegibgflhhdddaaDoorPush
import Derived.Test.YtegibgflhhdddaaDoorFtlMath
import Derived.Deep.RegionLaw
import Derived.Carry
import Derived.ProofKit
namespace Go.Proofs.YtegibgflhhdddaaDoor
open Go.RowKit Ftl

def pagesV (l : List Page) : List Value := l.flatMap fun p => [.int .i64 (p.1 : Nat), .int .i64 p.2]
theorem pagesV_length (l : List Page) : (pagesV l).length = l.length * 2 := by
  induction l with
  | nil => rfl
  | cons e l ih => simp [pagesV] at *; omega
theorem pagesV_at {l : List Page} {i : Nat} {p : Page} (h : l[i]? = some p) : (pagesV l)[i * 2]? = some (.int .i64 (p.1 : Nat)) ∧ (pagesV l)[i * 2 + 1]? = some (.int .i64 p.2) := by
  induction l generalizing i with
  | nil => simp at h
  | cons x l ih =>
    rcases i with _ | i
    · simp at h; subst h; simp [pagesV]
    · simp at h
      have := ih h
      simp only [pagesV, List.flatMap_cons] at this ⊢
      rw [show (i + 1) * 2 = i * 2 + 2 by omega, show i * 2 + 2 + 1 = (i * 2 + 1) + 2 by omega]
      simpa using this
theorem pagesV_append (l : List Page) (p : Page) : pagesV l ++ [.int .i64 (p.1 : Nat), .int .i64 p.2] = pagesV (l ++ [p]) := by
  simp [pagesV]

structure FlashIs (w : World) (B base g : Nat) (s : Fl) : Prop where
  blen : s.blk.length = 6
  llen : s.loc.length = 8
  elen : s.er.length = 6
  act : s.act < 6
  lo : B ≤ g ∧ g < base ∧ base ≤ w.heap.size
  rows : ∃ V : Nat → Value, (∀ b, b < 6 → w.cell? ⟨g, b, none⟩ = some (V b) ∧ w.ownsRow base 68 2 (V b) (s.row b).length (pagesV (s.row b))) ∧
    ∀ a b, a < 6 → b < 6 → a ≠ b → ∀ k, (V a).ownBlock = some k → (V b).ownBlock ≠ some k
  locs : ∀ p a i, s.loc[p]? = some (a, i) → w.cell? ⟨g, 6 + p * 2, none⟩ = some (.int .i64 a) ∧ w.cell? ⟨g, 6 + p * 2 + 1, none⟩ = some (.int .i64 (i : Nat))
  ers : ∀ b n, s.er[b]? = some n → w.cell? ⟨g, 22 + b, none⟩ = some (.int .i64 (n : Nat))
  acts : w.cell? ⟨g, 28, none⟩ = some (.int .i64 (s.act : Nat))
  free : ∀ o, w.frozen? ⟨g, o, none⟩ = false

theorem FlashIs.below {w w' : World} {B base g : Nat} {s : Fl} (h : FlashIs w B base g s) (hb : Below w.heap.size w w') : FlashIs w' B base g s := by
  obtain ⟨h1, h2, h3, h4, lo, ⟨V, hV, hne⟩, h5, h6, h7, h8⟩ := h
  have hg : g < w.heap.size := by omega
  have hc : ∀ o, w'.cell? ⟨g, o, none⟩ = w.cell? ⟨g, o, none⟩ := fun o => hb.cell (p := ⟨g, o, none⟩) hg
  exact ⟨h1, h2, h3, h4, ⟨lo.1, lo.2.1, Nat.le_trans lo.2.2 hb.size⟩, ⟨V, fun b hb' => ⟨by rw [hc]; exact (hV b hb').1, ownsRow_later (hV b hb').2 hb⟩, hne⟩,
    fun p a i hp => by rw [hc, hc]; exact h5 p a i hp, fun b n hn => by rw [hc]; exact h6 b n hn, by rw [hc]; exact h7, fun o => by rw [hb.frozen (p := ⟨g, o, none⟩) hg]; exact h8 o⟩
theorem FlashIs.drewN {w : World} {B base g : Nat} {s : Fl} (h : FlashIs w B base g s) (n : Nat) : FlashIs (w.drewN n) B base g s := h.below (below_drewN' w n)
theorem FlashIs.lower {w : World} {B B' base g : Nat} {s : Fl} (h : FlashIs w B base g s) (hB : B' ≤ B) : FlashIs w B' base g s := by
  obtain ⟨h1, h2, h3, h4, lo, h5, h6, h7, h8, h9⟩ := h
  exact ⟨h1, h2, h3, h4, ⟨by omega, lo.2⟩, h5, h6, h7, h8, h9⟩

/-- what the flash's methods leave as it is -/
def KeptF (w w' : World) (g : Nat) : Prop :=
  w.heap.size ≤ w'.heap.size ∧ ∀ x cur t fr, w.heap[x]? = some (.cells cur t fr) → x ≠ g → t ≠ 68 → w'.heap[x]? = some (.cells cur t fr)
theorem KeptF.refl (w : World) (g : Nat) : KeptF w w g := ⟨Nat.le_refl _, fun _ _ _ _ h _ _ => h⟩
theorem KeptF.trans {a b c : World} {g : Nat} (h : KeptF a b g) (k : KeptF b c g) : KeptF a c g := ⟨Nat.le_trans h.1 k.1, fun x cur t fr h1 h2 h3 => k.2 x cur t fr (h.2 x cur t fr h1 h2 h3) h2 h3⟩
theorem KeptF.of_below {w w' : World} (g : Nat) (h : Below w.heap.size w w') : KeptF w w' g :=
  ⟨h.size, fun x cur t fr h1 _ _ => by rw [h.block x (Array.getElem?_eq_some_iff.1 h1).1]; exact h1⟩
theorem KeptF.own {w w' : World} {g base : Nat} {e : TypeId} {size : Nat} {v : Value} {n : Nat} {xs : List Value} (hk : KeptF w w' g) (h : w.ownsRow base e size v n xs) (hb : v.ownBlock ≠ some g) (he : e ≠ 68) : w'.ownsRow base e size v n xs := by
  obtain ⟨h1, h2⟩ := h
  refine ⟨h1, ?_⟩
  rcases h2 with h2 | ⟨r, cap, cur, rfl, hr, hh, hc⟩
  · exact .inl h2
  · exact .inr ⟨r, cap, cur, rfl, hr, hk.2 r _ _ _ hh (fun e => hb (by simp [Value.ownBlock, e])) he, hc⟩
theorem KeptF.grown_g {w w' : World} {g : Nat} (hg : w.grownBy w' (some g)) : KeptF w w' g :=
  ⟨hg.size, fun x cur ty fr hx hxg _ => by rw [hg.block x (Array.getElem?_eq_some_iff.1 hx).1 (by simp [hxg])]; exact hx⟩

/-- a store into one of the flash's own cells -/
theorem grown_set (w : World) (g o : Nat) (v : Value) : w.grownBy (w.setCell ⟨g, o, none⟩ v) (some g) :=
  ⟨rfl, rfl, rfl, by simp, fun k _ hk => heap_setCell_other w ⟨g, o, none⟩ k v (fun e => hk (by simp [e]))⟩

section
variable {w w' : World} {B base g : Nat} {s : Fl}

theorem FlashIs.row_block {V : Nat → Value} (h : FlashIs w B base g s) {b : Nat} (hV : w.ownsRow base 68 2 (V b) (s.row b).length (pagesV (s.row b))) : (V b).ownBlock ≠ some g := by
  intro e
  have := hV.lt g e
  have := h.lo
  omega

theorem FlashIs.setLoc (h : FlashIs w B base g s) (p i : Nat) (a : Int) (hp : p < 8) :
    FlashIs ((w.setCell ⟨g, 6 + p * 2, none⟩ (.int .i64 a)).setCell ⟨g, 6 + p * 2 + 1, none⟩ (.int .i64 (i : Nat))) B base g { s with loc := s.loc.set p (a, i) } ∧
    w.grownBy ((w.setCell ⟨g, 6 + p * 2, none⟩ (.int .i64 a)).setCell ⟨g, 6 + p * 2 + 1, none⟩ (.int .i64 (i : Nat))) (some g) := by
  obtain ⟨a0, i0, hl⟩ : ∃ a0 i0, s.loc[p]? = some (a0, i0) := ⟨_, _, List.getElem?_eq_getElem (by rw [h.llen]; exact hp)⟩
  obtain ⟨c1, c2⟩ := h.locs p a0 i0 hl
  have g1 := grown_set w g (6 + p * 2) (.int .i64 a)
  have g2 := grown_set (w.setCell ⟨g, 6 + p * 2, none⟩ (.int .i64 a)) g (6 + p * 2 + 1) (.int .i64 (i : Nat))
  have hoth : ∀ o, o ≠ 6 + p * 2 → o ≠ 6 + p * 2 + 1 → ((w.setCell ⟨g, 6 + p * 2, none⟩ (.int .i64 a)).setCell ⟨g, 6 + p * 2 + 1, none⟩ (.int .i64 (i : Nat))).cell? ⟨g, o, none⟩ = w.cell? ⟨g, o, none⟩ := fun o h1 h2 => by
    rw [World.cell?_setCell_other _ _ _ _ (by simp; try omega), World.cell?_setCell_other _ _ _ _ (by simp; try omega)]
  have hsame1 : ((w.setCell ⟨g, 6 + p * 2, none⟩ (.int .i64 a)).setCell ⟨g, 6 + p * 2 + 1, none⟩ (.int .i64 (i : Nat))).cell? ⟨g, 6 + p * 2, none⟩ = some (.int .i64 a) := by
    rw [World.cell?_setCell_other _ _ _ _ (by simp)]
    exact World.cell?_setCell_same _ _ _ c1
  have hsame2 : ((w.setCell ⟨g, 6 + p * 2, none⟩ (.int .i64 a)).setCell ⟨g, 6 + p * 2 + 1, none⟩ (.int .i64 (i : Nat))).cell? ⟨g, 6 + p * 2 + 1, none⟩ = some (.int .i64 (i : Nat)) := by
    exact World.cell?_setCell_same _ _ _ (u := .int .i64 (i0 : Nat)) (by rw [World.cell?_setCell_other _ _ _ _ (by simp)]; exact c2)
  have hgg : w.grownBy ((w.setCell ⟨g, 6 + p * 2, none⟩ (.int .i64 a)).setCell ⟨g, 6 + p * 2 + 1, none⟩ (.int .i64 (i : Nat))) (some g) := ⟨rfl, rfl, rfl, Nat.le_trans g1.size g2.size, fun k hk hne => by
    rw [g2.block k (Nat.lt_of_lt_of_le hk g1.size) hne, g1.block k hk hne]⟩
  have hfr : ∀ o, ((w.setCell ⟨g, 6 + p * 2, none⟩ (.int .i64 a)).setCell ⟨g, 6 + p * 2 + 1, none⟩ (.int .i64 (i : Nat))).frozen? ⟨g, o, none⟩ = w.frozen? ⟨g, o, none⟩ := fun o => by rw [World.frozen?_setCell, World.frozen?_setCell]
  generalize ((w.setCell ⟨g, 6 + p * 2, none⟩ (.int .i64 a)).setCell ⟨g, 6 + p * 2 + 1, none⟩ (.int .i64 (i : Nat))) = w2 at *
  obtain ⟨V, hV, hne⟩ := h.rows
  refine ⟨⟨h.blen, by simp [h.llen], h.elen, h.act, ⟨h.lo.1, h.lo.2.1, Nat.le_trans h.lo.2.2 hgg.size⟩, ⟨V, fun b hb => ⟨?_, ?_⟩, hne⟩, fun q a' i' hq => ?_, fun b n hn => ?_, ?_, fun o => ?_⟩, hgg⟩
  · rw [hoth b (by omega) (by omega)]; exact (hV b hb).1
  · exact (hV b hb).2.kept hgg (.inr (h.row_block (hV b hb).2))
  · by_cases hpq : q = p
    · subst hpq
      simp [h.llen, hp] at hq
      obtain ⟨rfl, rfl⟩ := hq
      exact ⟨hsame1, hsame2⟩
    · simp only at hq
      rw [List.getElem?_set_ne (by omega)] at hq
      rw [hoth _ (by omega) (by omega), hoth _ (by omega) (by omega)]
      exact h.locs q a' i' hq
  · have hb := (List.getElem?_eq_some_iff.1 hn).1
    simp only [h.elen] at hb
    rw [hoth _ (by omega) (by omega)]
    exact h.ers b n hn
  · rw [hoth _ (by omega) (by omega)]; exact h.acts
  · rw [hfr]; exact h.free o

end

end Go.Proofs.YtegibgflhhdddaaDoor
