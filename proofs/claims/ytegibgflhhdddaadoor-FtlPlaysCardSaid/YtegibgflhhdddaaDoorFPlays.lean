/- The walk of FtlPlays. -/
import Derived.Test.YtegibgflhhdddaaDoorFRef4
import Derived.Test.YtegibgflhhdddaaDoorFtl7h
import Derived.Test.YtegibgflhhdddaaDoorTold

namespace Go.Proofs.YtegibgflhhdddaaDoor
open Go.RowKit Ftl

theorem FlashIs.besideT {w w' : World} {B base g L : Nat} {s : Fl} {cur : Array Value} {T : TypeId} {fr : Nat × Nat} (h : FlashIs w B base g s) (hL : w.heap[L]? = some (.cells cur T fr)) (hT : T ≠ 68) (hLg : L ≠ g) (hg : w.grownBy w' (some L)) : FlashIs w' B base g s := by
  have lo := h.lo
  have hgw : g < w.heap.size := by omega
  have hgne : some g ≠ some L := by simp; omega
  obtain ⟨V, hV, hne⟩ := h.rows
  refine ⟨h.blen, h.llen, h.elen, h.act, ⟨lo.1, lo.2.1, Nat.le_trans lo.2.2 hg.size⟩, ⟨V, fun b hb6 => ⟨?_, ?_⟩, hne⟩, fun p a i hp => ?_, fun b m hm => ?_, ?_, fun q => ?_⟩
  · rw [hg.cell_far ⟨g, b, none⟩ hgw hgne]; exact (hV b hb6).1
  · refine (hV b hb6).2.kept hg ?_
    rcases hvo : (V b).ownBlock with _ | k
    · exact .inl rfl
    · right
      intro e
      cases e
      rcases (hV b hb6).2.2 with ⟨h', -⟩ | ⟨r, cap, cur', h', hr, hh, -⟩
      · rw [h'] at hvo; simp [Value.ownBlock] at hvo
      · rw [h'] at hvo; simp [Value.ownBlock] at hvo; subst hvo; rw [hh] at hL; simp at hL; exact hT hL.2.1.symm
  · rw [hg.cell_far ⟨g, _, none⟩ hgw hgne, hg.cell_far ⟨g, _, none⟩ hgw hgne]; exact h.locs p a i hp
  · rw [hg.cell_far ⟨g, _, none⟩ hgw hgne]; exact h.ers b m hm
  · rw [hg.cell_far ⟨g, _, none⟩ hgw hgne]; exact h.acts
  · rw [hg.frozen_far ⟨g, q, none⟩ hgw hgne]; exact h.free q

theorem IV.kept {w w' : World} {g : Nat} {v : Value} {L : List Int} (h : IV (g + 1) w v L) (hk : KeptF w w' g) : IV (g + 1) w' v L := by
  have hb : ∀ a n c, v = .slice (some a) n c → w'.heap[a.block]? = w.heap[a.block]? := fun a n c e => by
    obtain ⟨cs, fr, hh⟩ := h.row a n c e
    rw [hk.2 a.block _ _ _ hh (by have := h.lo a n c e; omega) (by decide), hh]
  refine ⟨?_, fun a n c e => ?_, h.lo⟩
  · obtain ⟨a, cap, rfl, h2, h3, h4⟩ := h.is
    refine ⟨a, cap, rfl, h2, h3, fun h0 => ?_⟩
    obtain ⟨b, off, rfl, h5, h6⟩ := h4 h0
    exact ⟨b, off, rfl, Nat.lt_of_lt_of_le h5 hk.1, fun j x hj => (World.cell?_of_block (a := ⟨b, off + j, none⟩) (hb ⟨b, off, none⟩ L.length cap rfl)).trans (h6 j x hj)⟩
  · obtain ⟨cs, fr, hh⟩ := h.row a n c e
    exact ⟨cs, fr, (hb a n c e).trans hh⟩

/-- the two flashes in a world -/
structure PW (W wr : World) (g gx : Nat) (s : Fl) (r : RF) : Prop where
  is : FlashIs wr g (g + 1) g s
  box : ∃ v1 v2 v3 v4 v5, wr.heap[gx]? = some (.cells #[v1, v2, v3, v4, v5, .int .i64 (r.act : Nat)] 27 (0, 0)) ∧ FRIs (g + 1) wr v1 v2 v3 v4 v5 r
  lo : W.heap.size ≤ g ∧ g < gx
  below : Below W.heap.size W wr
theorem PW.later {W w w' : World} {g gx : Nat} {s : Fl} {r : RF} (h : PW W w g gx s r) (hb : Below w.heap.size w w') : PW W w' g gx s r := by
  obtain ⟨v1, v2, v3, v4, v5, h1, h2⟩ := h.box
  exact ⟨h.is.below hb, ⟨v1, v2, v3, v4, v5, (hb.block _ (lt_of_heap h1)).trans h1, h2.below hb⟩, h.lo, h.below.trans (hb.mono h.below.size)⟩
theorem PW.open' {W wr : World} {g gx : Nat} {s : Fl} {r : RF} (h : PW W wr g gx s r) : ∃ a1 m1 a2 m2 a3 m3 a4 m4 a5 m5, wr.heap[gx]? = some (.cells #[.slice a1 r.L.length m1, .slice a2 r.L.length m2, .slice a3 r.L.length m3, .slice a4 r.many.length m4, .slice a5 r.er.length m5, .int .i64 (r.act : Nat)] 27 (0, 0)) ∧
    FRIs (g + 1) wr (.slice a1 r.L.length m1) (.slice a2 r.L.length m2) (.slice a3 r.L.length m3) (.slice a4 r.many.length m4) (.slice a5 r.er.length m5) r := by
  obtain ⟨v1, v2, v3, v4, v5, h1, h2⟩ := h.box
  obtain ⟨a1, n1, m1, rfl, e1⟩ := h2.r1.sl
  obtain ⟨a2, n2, m2, rfl, e2⟩ := h2.r2.sl
  obtain ⟨a3, n3, m3, rfl, e3⟩ := h2.r3.sl
  obtain ⟨a4, n4, m4, rfl, e4⟩ := h2.r4.sl
  obtain ⟨a5, n5, m5, rfl, e5⟩ := h2.r5.sl
  rw [List.length_map] at e1 e2 e3
  rw [natsI_length] at e4 e5
  subst e1 e2 e3 e4 e5
  exact ⟨a1, m1, a2, m2, a3, m3, a4, m4, a5, m5, h1, h2⟩
theorem PW.act_cell {W wr : World} {g gx : Nat} {s : Fl} {r : RF} (h : PW W wr g gx s r) : wr.cell? ⟨gx, 5, none⟩ = some (.int .i64 (r.act : Nat)) := by
  obtain ⟨_, _, _, _, _, _, _, _, _, _, hbx, -⟩ := h.open'
  exact (cells6 hbx).1.2.2.2.2.2
theorem PW.wrote {W w w' : World} {g gx : Nat} {s s' : Fl} {r : RF} (h : PW W w g gx s r) (hs : FlashIs w' g (g + 1) g s') (hb : Below g w w') (hk : KeptF w w' g) : PW W w' g gx s' r := by
  obtain ⟨v1, v2, v3, v4, v5, h1, h2⟩ := h.box
  have hlo := h.lo
  exact ⟨hs, ⟨v1, v2, v3, v4, v5, hk.2 _ _ _ _ h1 (by omega) (by decide), ⟨h2.r1.kept hk, h2.r2.kept hk, h2.r3.kept hk, h2.r4.kept hk, h2.r5.kept hk, h2.n1, h2.n2, h2.n3⟩⟩, h.lo, h.below.trans (hb.mono h.lo.1)⟩
theorem PW.setAll {W wr wx : World} {g gx : Nat} {s : Fl} {r r' : RF} {u1 u2 u3 u4 u5 : Value} (h : PW W wr g gx s r) (hr : FRIs (g + 1) wr u1 u2 u3 u4 u5 r')
    (hw : wx = (((((wr.setCell ⟨gx, 0, none⟩ u1).setCell ⟨gx, 1, none⟩ u2).setCell ⟨gx, 2, none⟩ u3).setCell ⟨gx, 3, none⟩ u4).setCell ⟨gx, 4, none⟩ u5).setCell ⟨gx, 5, none⟩ (.int .i64 (r'.act : Nat))) : PW W wx g gx s r' := by
  obtain ⟨v1, v2, v3, v4, v5, h1, h2⟩ := h.box
  have hlo := h.lo
  have q0 := heap_setCell_same wr gx 0 _ _ u1 h1
  have q1 := heap_setCell_same _ gx 1 _ _ u2 q0
  have q2 := heap_setCell_same _ gx 2 _ _ u3 q1
  have q3 := heap_setCell_same _ gx 3 _ _ u4 q2
  have q4 := heap_setCell_same _ gx 4 _ _ u5 q3
  have hl : W.heap.size ≤ gx := by omega
  have hgb : ∀ (w0 : World) (o : Nat) (u : Value), w0.grownBy (w0.setCell ⟨gx, o, none⟩ u) (some gx) := fun w0 o u => grown_set w0 gx o u
  refine ⟨?_, ⟨u1, u2, u3, u4, u5, by rw [hw]; exact fill6 h1 _ _ _ _ _ _, ?_⟩, h.lo, ?_⟩
  · rw [hw]
    exact (((((h.is.besideT h1 (by decide) (by omega) (hgb _ _ _)).besideT q0 (by decide) (by omega) (hgb _ _ _)).besideT q1 (by decide) (by omega) (hgb _ _ _)).besideT q2 (by decide) (by omega) (hgb _ _ _)).besideT q3 (by decide) (by omega) (hgb _ _ _)).besideT q4 (by decide) (by omega) (hgb _ _ _)
  · rw [hw]
    exact (((((hr.set h1).set q0).set q1).set q2).set q3).set q4
  · rw [hw]
    exact (((((h.below.setCell (p := ⟨gx, 0, none⟩) hl _).setCell (p := ⟨gx, 1, none⟩) hl _).setCell (p := ⟨gx, 2, none⟩) hl _).setCell (p := ⟨gx, 3, none⟩) hl _).setCell (p := ⟨gx, 4, none⟩) hl _).setCell (p := ⟨gx, 5, none⟩) hl _

/-- the two flashes in plain words -/
structure PP (s : Fl) (r : RF) (asked : Nat) : Prop where
  ok : Ok s
  sim : Sim s r
  hi : s.tot + 3 * s.er.sum ≤ asked
  len : r.L.length ≤ 2 * asked
theorem sum_mem : ∀ (l : List Nat) (i : Nat), l[i]?.getD 0 ≤ l.sum := by
  intro l
  induction l with
  | nil => intro i; simp
  | cons a l ih =>
    intro i
    rcases i with _ | i
    · simp
    · have := ih i
      simp only [List.getElem?_cons_succ, List.sum_cons]
      omega
theorem PP.times {s : Fl} {r : RF} {asked : Nat} (h : PP s r asked) (ha : asked ≤ 100000) (b : Nat) : s.times b ≤ 999999 := by
  have h1 := sum_mem s.er b
  have h2 := h.hi
  unfold Fl.times
  omega
theorem PP.write {s : Fl} {r : RF} {asked : Nat} (h : PP s r asked) {p : Page} (hp : p.1 < 8) : PP (s.write p) (r.write p) (asked + 1) := by
  obtain ⟨h1, h2, h3⟩ := h.ok.write_tot p
  have h4 := h.hi
  have h5 := h.len
  have h6 := h.sim.write_len h.ok p
  exact ⟨(h.ok.write hp).1, h.sim.write h.ok hp, by omega, by omega⟩
theorem PP.more {s : Fl} {r : RF} {asked : Nat} (h : PP s r asked) : PP s r (asked + 1) := ⟨h.ok, h.sim, by have := h.hi; omega, by have := h.len; omega⟩
theorem PP.new : PP Fl.new RF.new 0 := ⟨Fl.new_ok, sim_new, by decide, Nat.le_refl _⟩

theorem lawin_any (a b c : Int) (w : World) :
    Calls Tryd.prog 8 #[.int .i64 a, .int .i64 b, .int .i64 c] w fun e w' => e = .returned (.bool (decide (b ≤ a ∧ a ≤ c))) ∧ w = w' := by
  by_cases h1 : b ≤ a
  · have q1 : decide (b ≤ a) = true := decide_eq_true h1
    by_cases h2 : a ≤ c
    · have q2 : decide (a ≤ c) = true := decide_eq_true h2
      go_enter Tryd.func8, Tryd.ntmps8
      go_wp2
      go_ret
      exact ⟨by simp [h1, h2], rfl⟩
    · have q2 : decide (a ≤ c) = false := decide_eq_false h2
      go_enter Tryd.func8, Tryd.ntmps8
      go_wp2
      go_ret
      exact ⟨by simp, rfl⟩
  · have q1 : decide (b ≤ a) = false := decide_eq_false h1
    go_enter Tryd.func8, Tryd.ntmps8
    go_wp2
    go_ret
    exact ⟨by simp, rfl⟩

theorem rows_at {w : World} {a : Option Addr} {n cap : Nat} {rs : List (List Int)} (h : HasRows w (.slice a n cap) rs) {j : Nat} {r : List Int} (hr : rs[j]? = some r) :
    ∃ b off rv, a = some ⟨b, off, none⟩ ∧ w.cell? ⟨b, off + j, none⟩ = some rv ∧ HasInts w rv r ∧ b < w.heap.size := by
  obtain ⟨a', cap', h1, -, -, h4⟩ := h
  cases h1
  obtain ⟨b, off, h5, h8, h6⟩ := h4 (Nat.lt_of_le_of_lt (Nat.zero_le _) (List.getElem?_eq_some_iff.1 hr).1)
  obtain ⟨rv, h7, h9⟩ := h6 j r hr
  exact ⟨b, off, rv, h5, h7, h9, h8⟩
theorem err_same (k : Int) (v : Value) (hv : v = errV k) (w : World) (hg : Handled w) : Calls Tryd.prog 10 #[v, .int .i64 k] w fun e w' => e = .returned (.bool true) ∧ Below w.heap.size w w' := by
  subst hv
  exact (error_any k k w hg).mono fun e w' ⟨h1, h2⟩ => ⟨by rw [h1]; simp, h2⟩

end Go.Proofs.YtegibgflhhdddaaDoor
