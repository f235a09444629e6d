/- The walk of BookPlays. -/
import Derived.Test.YtfofepmkjjeldaaDoorBook5
import Derived.Test.YtfofepmkjjeldaaDoorRefBook3
import Derived.Test.YtfofepmkjjeldaaDoorInts
import Derived.Test.YtfofepmkjjeldaaDoorReadRows
import Derived.Deep.RegionHeld3
namespace Go.Proofs.YtfofepmkjjeldaaDoor
open Go.RowKit

theorem BookAt.not_own {w : World} {g : Nat} {B : List Nat} {G : List (Nat × Nat)} {txt : List UInt8} {m : Nat} (h : BookAt w g B G txt m) {x : Nat} {cs : Array Value} {t : TypeId} {fr : Nat × Nat} (hx : w.heap[x]? = some (.cells cs t fr)) (h1 : t ≠ 63) (h2 : t ≠ 54) (h3 : t ≠ 5) : ¬ BkOwn w g x := by
  rintro (rfl | hr | hr)
  · have hs := h.bld.shape
    simp [World.shape?, hx] at hs
    exact h1 hs.1
  · obtain ⟨v, e1, e2⟩ := h.grp
    have e3 : v.ownBlock = some x := by simpa [grpRow, e1] using hr
    rcases e2.2 with ⟨rfl, -⟩ | ⟨y, cap, cur, rfl, -, hy, -⟩
    · cases e3
    · simp only [Value.ownBlock, Option.some.injEq] at e3
      rw [e3, hx] at hy
      simp at hy
      exact h2 hy.2.1
  · obtain ⟨v, e1, e2⟩ := h.bld.row
    have e3 : v.ownBlock = some x := by rw [← (h.bld.addr_block e1).2.2]; exact hr
    rcases e2.2 with ⟨rfl, -⟩ | ⟨y, cap, cur, fz, rfl, -, hy, -⟩
    · cases e3
    · simp only [Value.ownBlock, Option.some.injEq] at e3
      rw [e3, hx] at hy
      simp at hy
      exact h3 hy.2.1

theorem HasInts.frame {w w' : World} {v : Value} {L : List Int} {g : Nat} {B : List Nat} {G : List (Nat × Nat)} {txt : List UInt8} {m : Nat} (h : HasInts w v L) (hi : IntRow w v) (hb : BookAt w g B G txt m) (hf : BkFrame w w' g) : HasInts w' v L ∧ IntRow w' v := by
  have hk : ∀ (a : Addr) (n c : Nat), v = .slice (some a) n c → a.block < w.heap.size ∧ w'.heap[a.block]? = w.heap[a.block]? := fun a n c e => by
    obtain ⟨cs, fr, hh⟩ := hi a n c e
    have hlt := (Array.getElem?_eq_some_iff.1 hh).1
    exact ⟨hlt, hf.blocks _ hlt (hb.not_own hh (by decide) (by decide) (by decide))⟩
  obtain ⟨a, cap, rfl, h2, h3, h4⟩ := h
  refine ⟨⟨a, cap, rfl, h2, h3, fun h0 => ?_⟩, fun b n c e => ?_⟩
  · obtain ⟨b, off, rfl, h5, h6⟩ := h4 h0
    obtain ⟨k1, k2⟩ := hk _ _ _ rfl
    exact ⟨b, off, rfl, Nat.lt_of_lt_of_le h5 hf.size, fun j x hj => (World.cell?_of_block (a := ⟨b, off + j, none⟩) k2).trans (h6 j x hj)⟩
  · obtain ⟨cs, fr, hh⟩ := hi b n c e
    exact ⟨cs, fr, by rw [(hk b n c e).2]; exact hh⟩

theorem RefIs.frame {w w' : World} {v1 v2 v3 : Value} {b : Bk} {g : Nat} {B : List Nat} {G : List (Nat × Nat)} {txt : List UInt8} {m : Nat} (h : RefIs w v1 v2 v3 b) (hb : BookAt w g B G txt m) (hf : BkFrame w w' g) : RefIs w' v1 v2 v3 b :=
  ⟨(h.r1.frame h.i1 hb hf).1, (h.r2.frame h.i2 hb hf).1, (h.r3.frame h.i3 hb hf).1, h.n2, h.n3, (h.r1.frame h.i1 hb hf).2, (h.r2.frame h.i2 hb hf).2, (h.r3.frame h.i3 hb hf).2⟩

/-- a round of the law: the book, and the reference's in its variable -/
structure PB (W w : World) (g gx : Nat) (b : Bk) (v1 v2 v3 : Value) : Prop where
  book : BookIs w g b
  ok : b.ok
  ref : RefIs w v1 v2 v3 b
  box : w.heap[gx]? = some (.cells #[v1, v2, v3, .string ⟨b.text.toArray⟩, .int .i64 (b.T.length : Nat)] 27 (0, 0))
  lo : W.heap.size ≤ g ∧ g < gx
  below : Below W.heap.size W w

theorem PB.frame {W w w' : World} {g gx : Nat} {b : Bk} {v1 v2 v3 : Value} (h : PB W w g gx b v1 v2 v3) (hf : BkFrame w w' g) : w'.heap[gx]? = some (.cells #[v1, v2, v3, .string ⟨b.text.toArray⟩, .int .i64 (b.T.length : Nat)] 27 (0, 0)) ∧ RefIs w' v1 v2 v3 b ∧ Below W.heap.size W w' :=
  ⟨(hf.blocks gx (Array.getElem?_eq_some_iff.1 h.box).1 (h.book.not_own h.box (by decide) (by decide) (by decide))).trans h.box, h.ref.frame h.book hf, h.below.trans (hf.below _ h.lo.1)⟩
theorem PB.later {W w w' : World} {g gx : Nat} {b : Bk} {v1 v2 v3 : Value} (h : PB W w g gx b v1 v2 v3) (hb : Below w.heap.size w w') : PB W w' g gx b v1 v2 v3 :=
  ⟨h.book.later hb, h.ok, h.ref.below hb, (hb.block gx (Array.getElem?_eq_some_iff.1 h.box).1).trans h.box, h.lo, h.below.trans (hb.mono h.below.size)⟩

/-- the reference's variable is written: five cells -/
theorem PB.stored {W w w' : World} {g gx : Nat} {b b' : Bk} {v1 v2 v3 u1 u2 u3 : Value} (h : PB W w g gx b v1 v2 v3) (hb : Below w.heap.size w w') (hr : RefIs w' u1 u2 u3 b') (x4 x5 : Value) (e4 : x4 = .string ⟨b'.text.toArray⟩) (e5 : x5 = .int .i64 (b'.T.length : Nat)) :
    BookIs (((((w'.setCell ⟨gx, 0, none⟩ u1).setCell ⟨gx, 1, none⟩ u2).setCell ⟨gx, 2, none⟩ u3).setCell ⟨gx, 3, none⟩ x4).setCell ⟨gx, 4, none⟩ x5) g b ∧
    RefIs (((((w'.setCell ⟨gx, 0, none⟩ u1).setCell ⟨gx, 1, none⟩ u2).setCell ⟨gx, 2, none⟩ u3).setCell ⟨gx, 3, none⟩ x4).setCell ⟨gx, 4, none⟩ x5) u1 u2 u3 b' ∧
    (((((w'.setCell ⟨gx, 0, none⟩ u1).setCell ⟨gx, 1, none⟩ u2).setCell ⟨gx, 2, none⟩ u3).setCell ⟨gx, 3, none⟩ x4).setCell ⟨gx, 4, none⟩ x5).heap[gx]? = some (.cells #[u1, u2, u3, .string ⟨b'.text.toArray⟩, .int .i64 (b'.T.length : Nat)] 27 (0, 0)) ∧
    Below W.heap.size W (((((w'.setCell ⟨gx, 0, none⟩ u1).setCell ⟨gx, 1, none⟩ u2).setCell ⟨gx, 2, none⟩ u3).setCell ⟨gx, 3, none⟩ x4).setCell ⟨gx, 4, none⟩ x5) := by
  subst e4 e5
  have h' := h.later hb
  have hz : ∀ (w0 : World) (o : Nat) (u : Value) (x : Nat), x ≠ gx → (w0.setCell ⟨gx, o, none⟩ u).heap[x]? = w0.heap[x]? := fun w0 o u x hx => heap_setCell_other w0 ⟨gx, o, none⟩ x u hx
  have hall : ∀ x, x ≠ gx → (((((w'.setCell ⟨gx, 0, none⟩ u1).setCell ⟨gx, 1, none⟩ u2).setCell ⟨gx, 2, none⟩ u3).setCell ⟨gx, 3, none⟩ (.string ⟨b'.text.toArray⟩)).setCell ⟨gx, 4, none⟩ (.int .i64 (b'.T.length : Nat))).heap[x]? = w'.heap[x]? := fun x hx => by
    rw [hz _ _ _ _ hx, hz _ _ _ _ hx, hz _ _ _ _ hx, hz _ _ _ _ hx, hz _ _ _ _ hx]
  have hfar : ∀ (v : Value) (L : List Int), HasInts w' v L → IntRow w' v → HasInts (((((w'.setCell ⟨gx, 0, none⟩ u1).setCell ⟨gx, 1, none⟩ u2).setCell ⟨gx, 2, none⟩ u3).setCell ⟨gx, 3, none⟩ (.string ⟨b'.text.toArray⟩)).setCell ⟨gx, 4, none⟩ (.int .i64 (b'.T.length : Nat))) v L ∧ IntRow (((((w'.setCell ⟨gx, 0, none⟩ u1).setCell ⟨gx, 1, none⟩ u2).setCell ⟨gx, 2, none⟩ u3).setCell ⟨gx, 3, none⟩ (.string ⟨b'.text.toArray⟩)).setCell ⟨gx, 4, none⟩ (.int .i64 (b'.T.length : Nat))) v := by
    intro v L hv hi
    obtain ⟨a, cap, rfl, h2, h3, h4⟩ := hv
    have hne : ∀ x, a = some x → x.block ≠ gx := fun x hx e => by
      obtain ⟨cs, fr, hh⟩ := hi x _ _ (by rw [hx])
      rw [e, h'.box] at hh
      simp at hh
    refine ⟨((((HasInts.far ⟨a, cap, rfl, h2, h3, h4⟩ hne).far hne).far hne).far hne).far hne, fun x n c e => ?_⟩
    obtain ⟨cs, fr, hh⟩ := hi x n c e
    exact ⟨cs, fr, (hall _ (hne x (by cases e; rfl))).trans hh⟩
  refine ⟨(h'.book.keep (by simp) (fun x hx => hall x (fun e => ?_))).1, ⟨(hfar _ _ hr.r1 hr.i1).1, (hfar _ _ hr.r2 hr.i2).1, (hfar _ _ hr.r3 hr.i3).1, hr.n2, hr.n3, (hfar _ _ hr.r1 hr.i1).2, (hfar _ _ hr.r2 hr.i2).2, (hfar _ _ hr.r3 hr.i3).2⟩, fill5 h'.box _ _ _ _ _, ?_⟩
  · subst e
    exact h'.book.not_own h'.box (by decide) (by decide) (by decide) hx
  · have hl : W.heap.size ≤ gx := by have := h.lo; omega
    exact ((((h'.below.setCell (p := ⟨gx, 0, none⟩) hl _).setCell (p := ⟨gx, 1, none⟩) hl _).setCell (p := ⟨gx, 2, none⟩) hl _).setCell (p := ⟨gx, 3, none⟩) hl _).setCell (p := ⟨gx, 4, none⟩) hl _

theorem HasRows.liesB {w : World} {a : Option Addr} {n cap : Nat} {rs : List (List Int)} (h : HasRows w (.slice a n cap) rs) {j : Nat} {r : List Int} (hr : rs[j]? = some r) :
    ∃ b off rv, a = some ⟨b, off, none⟩ ∧ w.cell? ⟨b, off + j, none⟩ = some rv ∧ HasInts w rv r := by
  obtain ⟨a', cap', h1, -, -, h4⟩ := h
  cases h1
  obtain ⟨b, off, h5, -, h6⟩ := h4 (Nat.lt_of_le_of_lt (Nat.zero_le _) (List.getElem?_eq_some_iff.1 hr).1)
  obtain ⟨rv, h7, h8⟩ := h6 j r hr
  exact ⟨b, off, rv, h5, h7, h8⟩

theorem box_frame {w w' : World} {g gx : Nat} {B : List Nat} {G : List (Nat × Nat)} {txt : List UInt8} {m : Nat} {cs : Array Value} {fr : Nat × Nat} (hb : BookAt w g B G txt m) (hf : BkFrame w w' g) (hx : w.heap[gx]? = some (.cells cs 27 fr)) : w'.heap[gx]? = some (.cells cs 27 fr) :=
  (hf.blocks gx (Array.getElem?_eq_some_iff.1 hx).1 (hb.not_own hx (by decide) (by decide) (by decide))).trans hx

theorem err_okB (c : Int) (w : World) (hg : Handled w) : Calls Tryd.prog 10 #[errV c, .int .i64 c] w fun e w' => e = .returned (.bool true) ∧ Below w.heap.size w w' :=
  (error_any c c w hg).mono fun e w' ⟨h1, h2⟩ => ⟨by rw [h1]; simp, h2⟩

theorem row_cell {w w' : World} {a : Option Addr} {n cap : Nat} {L : List Int} (h : HasInts w (.slice a n cap) L) (hb : Below w.heap.size w w') {j : Nat} {x : Int} (hx : L[j]? = some x) :
    ∃ b off, a = some ⟨b, off, none⟩ ∧ w'.cell? ⟨b, off + j, none⟩ = some (.int .i64 x) := (h.below hb).liesR hx

theorem box_cells {w : World} {g : Nat} {T : TypeId} {a0 a1 a2 a3 a4 : Value} (h : w.heap[g]? = some (.cells #[a0, a1, a2, a3, a4] T (0, 0))) : w.cell? ⟨g, 0, none⟩ = some a0 ∧ w.cell? ⟨g, 1, none⟩ = some a1 ∧ w.cell? ⟨g, 2, none⟩ = some a2 ∧ w.cell? ⟨g, 3, none⟩ = some a3 ∧ w.cell? ⟨g, 4, none⟩ = some a4 := by
  refine ⟨?_, ?_, ?_, ?_, ?_⟩ <;> (unfold World.cell?; simp only; rw [h]; rfl)
theorem box_free {w : World} {g : Nat} {T : TypeId} {cs : Array Value} (h : w.heap[g]? = some (.cells cs T (0, 0))) : w.frozen? ⟨g, 0, none⟩ = false ∧ w.frozen? ⟨g, 1, none⟩ = false ∧ w.frozen? ⟨g, 2, none⟩ = false ∧ w.frozen? ⟨g, 3, none⟩ = false ∧ w.frozen? ⟨g, 4, none⟩ = false := by
  refine ⟨?_, ?_, ?_, ?_, ?_⟩ <;> (unfold World.frozen?; simp only; rw [h]; rfl)

theorem ints_same (va vb : Value) (xs : List Int) (w : World) (ha : HasInts w va xs) (hb : HasInts w vb xs) : Calls Tryd.prog 15 #[va, vb] w fun e w' => e = .returned (.bool true) ∧ ∃ n, w' = w.drewN n :=
  (ints_any va vb xs xs w ha hb).mono fun e w' ⟨h1, h2⟩ => ⟨by rw [h1, decide_eq_true rfl], h2⟩

def PBs (W w : World) (g gx : Nat) : Prop := ∃ b v1 v2 v3, PB W w g gx b v1 v2 v3

set_option maxRecDepth 100000 in
set_option maxHeartbeats 8000000 in
theorem bplays_walk (v0 : Value) (W : World) {rs : List (List Int)} (hv0 : RowsArg W v0 rs) (hH : Handled W) (hP : Pow W.heap.size W) :
    Calls Tryd.prog 3 #[v0] W fun e w' => e = .returned (.bool true) ∧ Below W.heap.size W w' := by
  have HV := Lib.hid hv0.1
  have HSM := Lib.hid hv0.2
  have HH := Lib.hid hH
  have HP := Lib.hid hP
  clear hv0 hH hP
  obtain ⟨la, n, lcap, rfl, hn, hnc, hcm⟩ : ∃ la n lcap, v0 = .slice la n lcap ∧ n = rs.length ∧ n ≤ lcap ∧ lcap ≤ maxLen := by
    obtain ⟨a, cap, h, h1, h2, -⟩ := HV.out
    exact ⟨a, rs.length, cap, h, rfl, h1, h2⟩
  have hnm : n ≤ 9223372036854775807 := by unfold maxLen at hcm; omega
  have HN := Lib.hid hn
  clear hn hnc hcm
  go_enter Tryd.func3, Tryd.ntmps3
  go_wp2_with fail
  refine (new_walk _).mono ?_
  rintro _ w1 ⟨rfl, ⟨hbk1, -⟩, hb1⟩
  have HBK1 := Lib.hid hbk1
  have HB1 := Lib.hid hb1
  have hz1 := hb1.size
  have hg1 := hbk1.lt
  clear hbk1 hb1
  go_wp2_with fail
  refine (newbook_walk _).mono ?_
  rintro _ w2 ⟨⟨v1, v2, v3, rfl, hr2⟩, hb2⟩
  obtain ⟨a1, n1, m1, rfl, -⟩ := hr2.r1.sl
  obtain ⟨a2, n2, m2, rfl, -⟩ := hr2.r2.sl
  obtain ⟨a3, n3, m3, rfl, -⟩ := hr2.r3.sl
  have hz2 := hb2.size
  have HR2 := Lib.hid hr2
  have HB2 := Lib.hid (HB1.out.trans (hb2.mono hz1))
  have HBK2 := Lib.hid (HBK1.out.later hb2)
  obtain ⟨gx, hgx⟩ : ∃ gx, gx = w2.heap.size := ⟨_, rfl⟩
  obtain ⟨g, hg⟩ : ∃ g, g = W.heap.size := ⟨_, rfl⟩
  rw [← hg] at HBK2 hg1 hz1
  have HGX := Lib.hid hgx
  have HG := Lib.hid hg
  clear hr2 hb2
  unfold refV
  go_wp2_with fail
  rw [← hgx, ← hg]
  have hal := (Below.refl w2.heap.size w2).alloc (Nat.le_refl _) (.cells #[.slice a1 n1 m1, .slice a2 n2 m2, .slice a3 n3 m3, .string ⟨Bk.new.text.toArray⟩, .int .i64 (Bk.new.T.length : Nat)] 27)
  have hnew := heap_alloc_new w2 (.cells #[.slice a1 n1 m1, .slice a2 n2 m2, .slice a3 n3 m3, .string ⟨Bk.new.text.toArray⟩, .int .i64 (Bk.new.T.length : Nat)] 27)
  rw [← hgx] at hnew
  have HPB : Hid (PBs W (w2.alloc (.cells #[.slice a1 n1 m1, .slice a2 n2 m2, .slice a3 n3 m3, .string ⟨Bk.new.text.toArray⟩, .int .i64 (Bk.new.T.length : Nat)] 27)) g gx) :=
    Lib.hid ⟨Bk.new, _, _, _, HBK2.out.later hal, Bk.new_ok, HR2.out.below hal, hnew, by omega, HB2.out.trans (hal.mono HB2.out.size)⟩
  have hWg : W.heap.size ≤ g := by omega
  clear hgx hg hal hnew
  go_loopw [5] (fun ix wr => ∃ k : Nat, k ≤ 70 ∧ ix = .int .i64 k ∧ PBs W wr g gx) (fun ix _ => 70 - (intOf ix).toNat)
  case atStart => exact ⟨0, by omega, rfl, HPB.out⟩
  case round =>
    obtain ⟨k, hk70, rfl, hpbs⟩ := hrel
    have HPBS := Lib.hid hpbs
    clear hpbs
    by_cases hend : k < n ∧ k < 70
    · have q1 : decide (k < n) = true := decide_eq_true hend.1
      have q2 : decide ((k : Int) < 70) = true := decide_eq_true (by omega)
      obtain ⟨r, hr⟩ : ∃ r, rs[k]? = some r := ⟨_, List.getElem?_eq_getElem (by have := HN.out; omega)⟩
      have hbw : Below W.heap.size W wr := by obtain ⟨b, v1, v2, v3, h⟩ := HPBS.out; exact h.below
      obtain ⟨b0, o0, rv, rfl, hc0, hrv⟩ := HV.out.liesB hr
      obtain ⟨ra, ln, rcap, rfl, hln⟩ := hrv.sl
      have hc0w := (hbw.cell (p := ⟨b0, o0 + k, none⟩) (by
        obtain ⟨a', cap', e1, -, -, e4⟩ := HV.out
        obtain ⟨b', off', e5, e6, -⟩ := e4 (Nat.lt_of_le_of_lt (Nat.zero_le _) (List.getElem?_eq_some_iff.1 hr).1)
        cases e1
        cases e5
        exact e6)).trans hc0
      have HRV := Lib.hid hrv
      have HLN := Lib.hid hln
      have HRR := Lib.hid hr
      have hlm : ln ≤ 9223372036854775807 := by
        obtain ⟨a', cap', e1, h2, h3, -⟩ := hrv
        cases e1
        unfold maxLen at h3
        omega
      have HBW := Lib.hid hbw
      clear hr hc0 hrv hln hbw
      go_upto_if 29 with fail
      go_cut [] (fun wx => PBs W wx g gx)
      case first =>
        by_cases h2 : ln = 2
        · have q3 : ((ln : Int) == 2) = true := beq_iff_eq.2 (by omega)
          obtain ⟨p, hp⟩ : ∃ p, r[0]? = some p := ⟨_, List.getElem?_eq_getElem (by have := HLN.out; omega)⟩
          obtain ⟨x, hx⟩ : ∃ x, r[1]? = some x := ⟨_, List.getElem?_eq_getElem (by have := HLN.out; omega)⟩
          obtain ⟨rb, ro, rfl, hcp⟩ := row_cell HRV.out HBW.out hp
          obtain ⟨rb', ro', e', hcx⟩ := row_cell HRV.out HBW.out hx
          cases e'
          rw [Nat.add_zero] at hcp
          have hl0 : 0 < ln := by omega
          have hl1 : 1 < ln := by omega
          have hl0' : (0 : Int) < (ln : Int) := by omega
          have hl1' : (1 : Int) < (ln : Int) := by omega
          have HL2 := Lib.hid h2
          clear h2
          obtain ⟨b, v1, v2, v3, hpb⟩ := HPBS.out
          obtain ⟨a4, n4, m4, rfl, -⟩ := hpb.ref.r1.sl
          obtain ⟨a5, n5, m5, rfl, -⟩ := hpb.ref.r2.sl
          obtain ⟨a6, n6, m6, rfl, -⟩ := hpb.ref.r3.sl
          have hbox := hpb.box
          have i0 : wr.cell? ⟨gx, 0, none⟩ = some (.slice a4 n4 m4) := by unfold World.cell?; simp only; rw [hbox]; rfl
          have i1 : wr.cell? ⟨gx, 1, none⟩ = some (.slice a5 n5 m5) := by unfold World.cell?; simp only; rw [hbox]; rfl
          have i2 : wr.cell? ⟨gx, 2, none⟩ = some (.slice a6 n6 m6) := by unfold World.cell?; simp only; rw [hbox]; rfl
          have i3 : wr.cell? ⟨gx, 3, none⟩ = some (.string ⟨b.text.toArray⟩) := by unfold World.cell?; simp only; rw [hbox]; rfl
          have i4 : wr.cell? ⟨gx, 4, none⟩ = some (.int .i64 (b.T.length : Nat)) := by unfold World.cell?; simp only; rw [hbox]; rfl
          have HPBX := Lib.hid hpb
          have HP0 := Lib.hid hp
          have HX0 := Lib.hid hx
          clear hbox hpb hp hx
          go_wp2_with fail
          have hS : ∀ w', Below W.heap.size W w' → (w'.cell? ⟨rb, ro, none⟩ = some (.int .i64 p) ∧ w'.cell? ⟨rb, ro + 1, none⟩ = some (.int .i64 x)) := by
            intro w' hb'
            obtain ⟨rb1, ro1, e1, hc1⟩ := row_cell HRV.out hb' HP0.out
            obtain ⟨rb2, ro2, e2, hc2⟩ := row_cell HRV.out hb' HX0.out
            cases e1
            cases e2
            rw [Nat.add_zero] at hc1
            exact ⟨hc1, hc2⟩
          have HS := Lib.hid hS
          clear hS
          go_upto_region 9 with fail
          go_cut [7] (fun s7 wx => s7 = .int .i64 (b.writeE p x : Nat) ∧ BookIs wx g b ∧ (∃ u1 u2 u3, RefIs wx u1 u2 u3 (b.write p x) ∧ wx.heap[gx]? = some (.cells #[u1, u2, u3, .string ⟨(b.write p x).text.toArray⟩, .int .i64 ((b.write p x).T.length : Nat)] 27 (0, 0))) ∧ Below W.heap.size W wx)
          case first =>
            have hcp' := HS.out _ HBW.out
            obtain ⟨hcp1, hcp2⟩ := hcp'
            go_region_law (go_simp; go_at_call 9; refine (refwrite_walk _ _ _ _ b p x (HPBX.out.ref.below (Below.refl wr.heap.size wr).drew) HPBX.out.ok).mono ?_; rintro e5 w5 ⟨⟨u1, u2, u3, he5, hr5⟩, hb5⟩; obtain ⟨a7, n7, m7, rfl, -⟩ := hr5.r1.sl; obtain ⟨a8, n8, m8, rfl, -⟩ := hr5.r2.sl; obtain ⟨a9, n9, m9, rfl, -⟩ := hr5.r3.sl; obtain ⟨tx, htx⟩ : ∃ tx : ByteArray, tx = ⟨(b.write p x).text.toArray⟩ := ⟨_, rfl⟩; have he5' : e5 = .returned (.tuple #[.agg #[.slice a7 n7 m7, .slice a8 n8 m8, .slice a9 n9 m9, .string tx, .int .i64 ((b.write p x).T.length : Nat)], .int .i64 (b.writeE p x : Nat)]) := (by rw [htx]; exact he5); subst he5'; have hb5' : Below wr.heap.size wr w5 := (Below.refl wr.heap.size wr).drew.trans hb5; have HST := Lib.hid (HPBX.out.stored hb5' hr5 (.string tx) (.int .i64 ((b.write p x).T.length : Nat)) (by rw [htx]) rfl); have HB5 := Lib.hid (HBW.out.trans (hb5'.mono HBW.out.size)); have hbx5 := (hb5'.block gx (Array.getElem?_eq_some_iff.1 HPBX.out.box).1).trans HPBX.out.box; obtain ⟨e0, e1, e2, e3, e4⟩ := box_cells hbx5; obtain ⟨z0, z1, z2, z3, z4⟩ := box_free hbx5; clear hbx5 hb5' hb5 hr5 he5 htx)
            all_goals
              go_wp2_with fail
              go_meet
              exact ⟨rfl, HST.out.1, ⟨_, _, _, HST.out.2.1, HST.out.2.2.1⟩, HST.out.2.2.2⟩
          case rest =>
            obtain ⟨rfl, hst1, ⟨u1, u2, u3, hst2, hst3⟩, hst4⟩ := hcut
            obtain ⟨w6, rfl⟩ : ∃ w6, w6 = wc := ⟨_, rfl⟩
            have HBK6 := Lib.hid hst1
            have HR6 := Lib.hid hst2
            have HX6 := Lib.hid hst3
            have HB6 := Lib.hid hst4
            clear hst1 hst2 hst3 hst4
            go_upto_region 10 with fail
            go_region_held3 (fun w' => w'.cell? ⟨rb, ro, none⟩ = some (.int .i64 p) ∧ w'.cell? ⟨rb, ro + 1, none⟩ = some (.int .i64 x))
              (first
                | exact HS.out _ HB6.out
                | exact HS.out _ HB6.out.drew
                | exact HS.out _ HB8.out
                | exact HS.out _ HB7.out)
              (first
                | (go_at_call 11; refine (bwrite_walk _ W.heap.size g b p x (HBK6.out.later (Below.refl w6.heap.size w6).drew) hWg (HP.out.on HB6.out.drew) HPBX.out.ok).mono ?_; rintro _ w7 ⟨rfl, hbk7, hf7⟩; have HBK7 := Lib.hid hbk7; have HF7 := Lib.hid ((HBK6.out.frame (Below.refl w6.heap.size w6).drew).trans hf7); have HB7 := Lib.hid (HB6.out.trans (HF7.out.below _ hWg)); clear hbk7 hf7)
                | (go_at_call 10; refine (err_okB _ w7 (HH.out.below HB7.out)).mono ?_; rintro _ w8 ⟨rfl, hb8⟩; have HBL8 := Lib.hid hb8; have HB8 := Lib.hid (HB7.out.trans (hb8.mono HB7.out.size)); clear hb8))
            have HX7 := Lib.hid (box_frame HBK6.out HF7.out HX6.out)
            have HFIN : Hid (PBs W w8 g gx) := Lib.hid ⟨b.write p x, _, _, _, HBK7.out.later HBL8.out, HPBX.out.ok.write p x, (HR6.out.frame HBK6.out HF7.out).below HBL8.out, (HBL8.out.block gx (Array.getElem?_eq_some_iff.1 HX7.out).1).trans HX7.out, ⟨hWg, HPBX.out.lo.2⟩, HB8.out⟩
            go_wp2_with fail
            go_meet
            exact HFIN.out
        · have q3 : ((ln : Int) == 2) = false := beq_eq_false_iff_ne.2 (by omega)
          go_wp2_with fail
          go_meet
          exact HPBS.out
      case rest =>
        have HC := Lib.hid hcut
        clear hcut
        go_upto_if 54 with fail
        go_cut [] (fun wx => PBs W wx g gx)
        case first =>
          by_cases h1 : ln = 1
          · have q4 : ((ln : Int) == 1) = true := beq_iff_eq.2 (by omega)
            obtain ⟨b, v1, v2, v3, hpb⟩ := HC.out
            obtain ⟨a4, n4, m4, rfl, -⟩ := hpb.ref.r1.sl
            obtain ⟨a5, n5, m5, rfl, -⟩ := hpb.ref.r2.sl
            obtain ⟨a6, n6, m6, rfl, -⟩ := hpb.ref.r3.sl
            obtain ⟨i0, i1, i2, i3, i4⟩ := box_cells hpb.box
            have HPBX := Lib.hid hpb
            have HL1 := Lib.hid h1
            clear hpb h1
            go_wp2_with fail
            refine (refdo_walk wc _ _ _ b HPBX.out.ref HPBX.out.ok).mono ?_
            rintro e5 w5 ⟨⟨u1, u2, u3, he5, hr5⟩, hb5⟩
            obtain ⟨a7, n7, m7, rfl, -⟩ := hr5.r1.sl
            obtain ⟨a8, n8, m8, rfl, -⟩ := hr5.r2.sl
            obtain ⟨a9, n9, m9, rfl, -⟩ := hr5.r3.sl
            obtain ⟨tx, htx⟩ : ∃ tx : ByteArray, tx = ⟨b.done.text.toArray⟩ := ⟨_, rfl⟩
            have he5' : e5 = .returned (.tuple #[.agg #[.slice a7 n7 m7, .slice a8 n8 m8, .slice a9 n9 m9, .string tx, .int .i64 (b.done.T.length : Nat)], .int .i64 (b.doneN : Nat), .int .i64 (b.doneE : Nat)]) := (by rw [htx]; exact he5)
            subst he5'
            have hst := HPBX.out.stored hb5 hr5 (.string tx) (.int .i64 (b.done.T.length : Nat)) (by rw [htx]) rfl
            have hbx5 := (hb5.block gx (Array.getElem?_eq_some_iff.1 HPBX.out.box).1).trans HPBX.out.box
            obtain ⟨e0, e1, e2, e3, e4⟩ := box_cells hbx5
            obtain ⟨z0, z1, z2, z3, z4⟩ := box_free hbx5
            obtain ⟨hst1, hst2, hst3, hst4⟩ := hst
            have HBK6 := Lib.hid hst1
            have HR6 := Lib.hid hst2
            have HX6 := Lib.hid hst3
            have HB6 := Lib.hid hst4
            clear hbx5 hb5 hr5 he5 htx hst1 hst2 hst3 hst4
            go_upto_region 15 with fail
            obtain ⟨w6, hw6⟩ : ∃ y, y = ((((w5.setCell ⟨gx, 0, none⟩ (.slice a7 n7 m7)).setCell ⟨gx, 1, none⟩ (.slice a8 n8 m8)).setCell ⟨gx, 2, none⟩ (.slice a9 n9 m9)).setCell ⟨gx, 3, none⟩ (.string tx)).setCell ⟨gx, 4, none⟩ (.int .i64 (b.done.T.length : Nat)) := ⟨_, rfl⟩
            rw [← hw6] at HBK6 HR6 HX6 HB6 ⊢
            clear hw6 e0 e1 e2 e3 e4 z0 z1 z2 z3 z4 i0 i1 i2 i3 i4
            go_wp2_with fail
            refine (bdo_walk w6 W.heap.size g b HBK6.out hWg (HP.out.on HB6.out) HPBX.out.ok).mono ?_
            rintro _ w7 ⟨rfl, hbk7, hf7⟩
            have HBK7 := Lib.hid hbk7
            have HF7 := Lib.hid hf7
            have HB7 := Lib.hid (HB6.out.trans (hf7.below _ hWg))
            clear hbk7 hf7
            go_wp2_with fail
            refine (err_okB _ w7 (HH.out.below HB7.out)).mono ?_
            rintro _ w8 ⟨rfl, hb8⟩
            have HX7 := Lib.hid (box_frame HBK6.out HF7.out HX6.out)
            have HFIN : Hid (PBs W w8 g gx) := Lib.hid ⟨b.done, _, _, _, HBK7.out.later hb8, HPBX.out.ok.done, (HR6.out.frame HBK6.out HF7.out).below hb8, (hb8.block gx (Array.getElem?_eq_some_iff.1 HX7.out).1).trans HX7.out, ⟨hWg, HPBX.out.lo.2⟩, HB7.out.trans (hb8.mono HB7.out.size)⟩
            clear hb8
            go_wp2_with fail
            go_meet
            exact HFIN.out
          · have q4 : ((ln : Int) == 1) = false := beq_eq_false_iff_ne.2 (by omega)
            go_wp2_with fail
            go_meet
            exact HC.out
        case rest =>
          obtain ⟨b, v1, v2, v3, hpb⟩ := hcut
          obtain ⟨w9, rfl⟩ : ∃ w9, w9 = wc := ⟨_, rfl⟩
          obtain ⟨a4, n4, m4, rfl, -⟩ := hpb.ref.r1.sl
          obtain ⟨a5, n5, m5, rfl, hn5⟩ := hpb.ref.r2.sl
          obtain ⟨a6, n6, m6, rfl, -⟩ := hpb.ref.r3.sl
          rw [natsI_length, List.length_map] at hn5
          subst hn5
          have hS : ∀ w' : World, w'.heap[gx]? = w9.heap[gx]? → (w'.cell? ⟨gx, 3, none⟩ = some (.string ⟨b.text.toArray⟩) ∧ w'.cell? ⟨gx, 0, none⟩ = some (.slice a4 n4 m4) ∧ w'.cell? ⟨gx, 1, none⟩ = some (.slice a5 b.G.length m5)) := by
            intro w' hb'
            obtain ⟨i0, i1, i2, i3, i4⟩ := box_cells (hb'.trans hpb.box)
            exact ⟨i3, i0, i1⟩
          have HS := Lib.hid hS
          have HPBX := Lib.hid hpb
          clear hpb hS
          go_wp2_with fail
          go_region_held3 (fun w' => w'.cell? ⟨gx, 3, none⟩ = some (.string ⟨b.text.toArray⟩) ∧ w'.cell? ⟨gx, 0, none⟩ = some (.slice a4 n4 m4) ∧ w'.cell? ⟨gx, 1, none⟩ = some (.slice a5 b.G.length m5))
            (first
              | exact HS.out _ rfl
              | exact HS.out _ HG6.out
              | exact HS.out _ HG5.out)
            (first
              | (go_at_call 14; refine (text_walk _ g b (HPBX.out.book.later (Below.refl w9.heap.size w9).drew)).mono ?_; rintro _ w5 ⟨rfl, hbk5, hf5⟩; have HBK5 := Lib.hid hbk5; have HF5 := Lib.hid ((HPBX.out.book.frame (Below.refl w9.heap.size w9).drew).trans hf5); have HG5 := Lib.hid ((box_frame HPBX.out.book HF5.out HPBX.out.box).trans HPBX.out.box.symm); clear hbk5 hf5)
              | (go_at_call 16; refine (values_walk w5 g b HBK5.out).mono ?_; rintro _ w6 ⟨⟨vv, rfl, ho6⟩, hb6⟩; have HV6 := Lib.hid (HasInts.of_own ho6).2; have HBL6 := Lib.hid hb6; have HG6 := Lib.hid ((hb6.block gx (by have h1 := HG5.out; have h2 := HPBX.out.box; rw [h2] at h1; exact (Array.getElem?_eq_some_iff.1 h1).1)).trans HG5.out); have HR6 := Lib.hid ((HPBX.out.ref.frame HPBX.out.book HF5.out).below hb6); clear ho6 hb6)
              | (go_at_call 15; refine (ints_same vv _ (natsI b.B) w6 HV6.out HR6.out.r1).mono ?_; rintro _ w7 ⟨rfl, q7, rfl⟩)
              | (go_at_call 17; refine (waits_walk _ g b ((HBK5.out.later HBL6.out).later (below_drewN' w6 q7))).mono ?_; rintro _ w8 ⟨rfl, rfl⟩))
          have HFIN : Hid (PBs W (w6.drewN q7) g gx) := Lib.hid ⟨b, _, _, _, (HBK5.out.later HBL6.out).later (below_drewN' w6 q7), HPBX.out.ok, HR6.out.below (below_drewN' w6 q7), HG6.out.trans HPBX.out.box, HPBX.out.lo, ((HPBX.out.below.trans (HF5.out.below _ hWg)).trans (HBL6.out.mono (HPBX.out.below.trans (HF5.out.below _ hWg)).size)).trans ((below_drewN' w6 q7).mono ((HPBX.out.below.trans (HF5.out.below _ hWg)).trans (HBL6.out.mono (HPBX.out.below.trans (HF5.out.below _ hWg)).size)).size)⟩
          go_wp2_with fail
          go_roundw
          case rel => exact ⟨k + 1, by omega, by go_num, HFIN.out⟩
          case measure => simp [intOf]; omega
    · have HBW := Lib.hid (show Below W.heap.size W wr by obtain ⟨b, v1, v2, v3, h⟩ := HPBS.out; exact h.below)
      by_cases hk1 : k < n
      · have q1 : decide (k < n) = true := decide_eq_true hk1
        have q2 : decide ((k : Int) < 70) = false := decide_eq_false (by omega)
        go_wp2_with fail
        go_ret
        exact ⟨rfl, HBW.out⟩
      · have q1 : decide (k < n) = false := decide_eq_false hk1
        go_wp2_with fail
        go_ret
        exact ⟨rfl, HBW.out⟩

end Go.Proofs.YtfofepmkjjeldaaDoor
