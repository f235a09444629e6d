/- The disk's live and down. -/
import Derived.Test.YtegibgflhhdddaaDoorLfs1
namespace Go.Proofs.YtegibgflhhdddaaDoor.Lf
open Go.RowKit Ftl

theorem infoBk : (Tryd.prog.info? 89).map (fun i => (i.zero, i.size, i.bytes)) = some (some (.agg #[.int .i64 0, .int .i64 0]), 2, 16) := by kernel_rfl

set_option maxRecDepth 100000 in
set_option maxHeartbeats 2000000 in
theorem llive_walk (w : World) (B base g : Nat) (s : Fl) (b : Nat) (hs : DiskIs w B base g s) (hb : b < 6) (h4 : (s.row b).length ≤ 4) (hp : ∀ p ∈ s.row b, p.1 < 8) :
    Calls Tryd.prog 50 #[.pointer (some ⟨g, 0, none⟩), .int .i64 (b : Nat)] w fun e w' => ∃ v, e = .returned v ∧ w'.ownsRow w.heap.size 89 2 v (s.live b).length (pagesV (s.live b)) ∧ Below w.heap.size w w' := by
  have HS := Lib.hid hs
  have HP := Lib.hid hp
  obtain ⟨V, hV, -⟩ := hs.rows
  obtain ⟨c0, hown⟩ := hV b hb
  obtain ⟨va, cap, hva⟩ := own_shape' hown
  rw [hva] at c0 hown
  have HOWN := Lib.hid hown
  obtain ⟨n, hn⟩ : ∃ n, n = (s.row b).length := ⟨_, rfl⟩
  rw [← hn] at c0 h4 HOWN
  have HN := Lib.hid hn
  have hbi : (b : Int) < 6 := by omega
  have heq := eqSpot
  clear hs hp hV hva hown hn
  go_enter Tryd.func50, Tryd.ntmps50
  go_wp2_with fail
  clear c0
  go_loopw [4, 14] (fun v ix wr => ∃ k : Nat, k ≤ n ∧ ix = .int .i64 k ∧ wr.ownsRow w.heap.size 89 2 v (s.liveTo b k).length (pagesV (s.liveTo b k)) ∧ Below w.heap.size w wr) (fun _ ix _ => n - (intOf ix).toNat)
  case atStart => exact ⟨0, by omega, rfl, World.ownsRow_nil _ _ _ _, Below.refl _ _⟩
  case round =>
    obtain ⟨k, hk, rfl, ho, hbl⟩ := hrel
    have HO := Lib.hid ho
    have HB := Lib.hid hbl
    by_cases hlt : k < n
    · have q1 : decide (k < n) = true := decide_eq_true hlt
      obtain ⟨⟨pg, val⟩, hpg⟩ : ∃ p, (s.row b)[k]? = some p := ⟨_, List.getElem?_eq_getElem (by have := HN.out; omega)⟩
      have hpg8 : pg < 8 := HP.out _ (List.mem_of_getElem? hpg)
      obtain ⟨r, cap', hsl, hbr, hrw⟩ := HOWN.out.form (by omega)
      obtain ⟨rfl, rfl⟩ : va = some ⟨r, 0, none⟩ ∧ cap = cap' := by simpa using hsl
      have hown1 := ownsRow_later HOWN.out hbl
      have hc1 := hown1.cellAt (k * 2) (by omega)
      have hc2 := hown1.cellAt (k * 2 + 1) (by omega)
      rw [(pagesV_at hpg).1] at hc1
      rw [(pagesV_at hpg).2] at hc2
      simp only at hc1 hc2
      have hs1 := HS.out.below hbl
      obtain ⟨⟨a, i⟩, hl⟩ : ∃ e, s.loc[pg]? = some e := ⟨_, List.getElem?_eq_getElem (by rw [HS.out.llen]; exact hpg8)⟩
      obtain ⟨d1, d2, d3⟩ := hs1.locs pg a i hl
      have hgw : g < wr.heap.size := by have := hs1.lo; omega
      have hpi : (pg : Int) < 8 := by omega
      by_cases he : a = (b : Int) ∧ i = k
      · obtain ⟨rfl, rfl⟩ := he
        have HL := Lib.hid (Fl.liveTo_yes hpg hl)
        rw [show segN (b : Int) = (b : Int) from if_neg (by omega)] at d1
        rw [show decide ((0 : Int) ≤ (b : Int)) = true from decide_eq_true (by omega)] at d3
        clear hsl hbr hrw hown1 hs1 ho hbl hpg hl
        go_wp2_with fail
        go_quiet (fail)
        have hw1 : Below wr.heap.size wr ((wr.alloc (.cells #[.int .i64 (pg : Nat), .int .i64 val] 89)).drewN nq) := below_drewN ((Below.refl _ _).alloc (Nat.le_refl _) _) _
        have HW1 := Lib.hid hw1
        have HB1 := Lib.hid (HB.out.trans (hw1.mono HB.out.size))
        have HO1 := Lib.hid (ownsRow_later HO.out hw1)
        have HN1 := Lib.hid (show (s.liveTo b i).length + 1 ≤ maxLen by have := s.liveTo_length b i; unfold maxLen; omega)
        have HN2 := Lib.hid (show ((s.liveTo b i).length + 1) * 16 ≤ 140737488355328 by have := s.liveTo_length b i; omega)
        have HSZ := Lib.hid (show ((wr.alloc (.cells #[.int .i64 (pg : Nat), .int .i64 val] 89)).drewN nq).heap.size = wr.heap.size + 1 by simp)
        clear hw1
        go_wp2_with (at_builtin; go_must (refine wpList_pushM (us := [.int .i64 (pg : Nat), .int .i64 val]) (wr.heap.size + 1) 2 _ 16 HSZ.out HO1.out Tryd.underlying79 infoBk rfl (by omega) rfl rfl (by simp [Value.oneCell']) rfl HN1.out HN2.out HB1.out.size ?_; intro v' w5 hown1 hbel1 _; have HO2 := Lib.hid hown1; have HB2 := Lib.hid (HB1.out.trans hbel1); clear hown1 hbel1))
        go_roundw
        case rel =>
          refine ⟨i + 1, by omega, by go_num, ?_, HB2.out⟩
          have h := HO2.out
          rw [pagesV_append _ ((pg, val) : Page)] at h
          rw [HL.out]
          simpa using h
        case measure => simp [intOf]; omega
      · have HL := Lib.hid (Fl.liveTo_no hpg (show s.loc[pg]? ≠ some ((b : Int), k) by rw [hl]; intro e; simp at e; exact he e))
        by_cases ha : 0 ≤ a
        · have q2 : (a == (b : Int) && (i : Int) == (k : Int)) = false := by
            by_cases h1 : a = (b : Int)
            · have h2 : ¬ (i : Int) = (k : Int) := fun h2 => he ⟨h1, by omega⟩
              simp [h1, h2]
            · simp [h1]
          have q3 : (a == (b : Int) && (i : Int) == (k : Int) && true) = false := by rw [q2]; rfl
          rw [show segN a = a from if_neg (by omega)] at d1
          rw [show decide ((0 : Int) ≤ a) = true from decide_eq_true ha] at d3
          clear hsl hbr hrw hown1 hs1 ho hbl hpg hl he ha
          go_wp2_with fail
          go_quiet (fail)
          have hw1 : Below wr.heap.size wr ((wr.alloc (.cells #[.int .i64 (pg : Nat), .int .i64 val] 89)).drewN nq) := below_drewN ((Below.refl _ _).alloc (Nat.le_refl _) _) _
          have HB1 := Lib.hid (HB.out.trans (hw1.mono HB.out.size))
          have HO1 := Lib.hid (ownsRow_later HO.out hw1)
          clear hw1
          go_wp2_with fail
          go_roundw
          case rel => exact ⟨k + 1, by omega, by go_num, by rw [HL.out]; exact HO1.out, HB1.out⟩
          case measure => simp [intOf]; omega
        · rw [show decide ((0 : Int) ≤ a) = false from decide_eq_false ha] at d3
          clear hsl hbr hrw hown1 hs1 ho hbl hpg hl he ha
          go_wp2_with fail
          go_quiet (fail)
          have hw1 : Below wr.heap.size wr ((wr.alloc (.cells #[.int .i64 (pg : Nat), .int .i64 val] 89)).drewN nq) := below_drewN ((Below.refl _ _).alloc (Nat.le_refl _) _) _
          have HB1 := Lib.hid (HB.out.trans (hw1.mono HB.out.size))
          have HO1 := Lib.hid (ownsRow_later HO.out hw1)
          clear hw1
          go_wp2_with fail
          go_roundw
          case rel => exact ⟨k + 1, by omega, by go_num, by rw [HL.out]; exact HO1.out, HB1.out⟩
          case measure => simp [intOf]; omega
    · obtain rfl : k = n := by omega
      have q1 : decide (k < k) = false := decide_eq_false hlt
      have e1 : s.live b = s.liveTo b k := by rw [HN.out]; rfl
      have HE := Lib.hid e1
      clear ho hbl e1
      go_wp2_with fail
      go_ret
      exact ⟨_, rfl, by rw [HE.out]; exact HO.out, HB.out⟩

/-- what holds behind the append -/
theorem DiskIs.still {w w0 w1 : World} {B base g : Nat} {s : Fl} {v : Value} (h : DiskIs w B base g s) (hv : ∀ k, v.ownBlock = some k → base ≤ k) (hw0 : Below w.heap.size w w0) (hg : w0.grownBy w1 v.ownBlock) :
    (∀ o, w1.cell? ⟨g, o, none⟩ = w.cell? ⟨g, o, none⟩) ∧ (∀ o, w1.frozen? ⟨g, o, none⟩ = false) := by
  have lo := h.lo
  have hgw : g < w.heap.size := by omega
  have hgw0 : g < w0.heap.size := Nat.lt_of_lt_of_le hgw hw0.size
  have hne : some g ≠ v.ownBlock := fun e => by have := hv g e.symm; omega
  exact ⟨fun o => by rw [hg.cell_far ⟨g, o, none⟩ hgw0 hne, hw0.cell (p := ⟨g, o, none⟩) hgw], fun o => by rw [hg.frozen_far ⟨g, o, none⟩ hgw0 hne, hw0.frozen (p := ⟨g, o, none⟩) hgw]; exact h.free o⟩

theorem DiskIs.appended {w w0 w1 : World} {B base g : Nat} {s : Fl} {V : Nat → Value} {p : Page} {r cap H : Nat} (h : DiskIs w B base g s)
    (hV : ∀ b, b < 6 → w.cell? ⟨g, b, none⟩ = some (V b) ∧ w.ownsRow base 89 2 (V b) (s.row b).length (pagesV (s.row b))) (hne : ∀ a b, a < 6 → b < 6 → a ≠ b → ∀ k, (V a).ownBlock = some k → (V b).ownBlock ≠ some k)
    (hw0 : Below w.heap.size w w0) (hH : w.heap.size ≤ H) (hg : w0.grownBy w1 (V s.act).ownBlock)
    (hown : w1.ownsRow base 89 2 (.slice (some ⟨r, 0, none⟩) ((s.row s.act).length + 1) cap) ((s.row s.act).length + 1) (pagesV (s.row s.act) ++ [.int .i64 (p.1 : Nat), .int .i64 p.2])) (hr : (V s.act).ownBlock = some r ∨ r = H) :
    let w2 := w1.setCell ⟨g, s.act, none⟩ (.slice (some ⟨r, 0, none⟩) ((s.row s.act).length + 1) cap)
    DiskIs w2 B base g { s with blk := s.blk.set s.act (s.row s.act ++ [p]) } ∧ Below B w w2 ∧ KeptD w w2 g base := by
  have lo := h.lo
  have hgw : g < w.heap.size := by omega
  have ha := h.act
  have hgw0 : g < w0.heap.size := Nat.lt_of_lt_of_le hgw hw0.size
  have hgw1 : g < w1.heap.size := Nat.lt_of_lt_of_le hgw0 hg.size
  have hva : ∀ k, (V s.act).ownBlock = some k → base ≤ k ∧ k < w.heap.size := (hV _ ha).2.lt
  obtain ⟨hc, hf⟩ := h.still (fun k hk => (hva k hk).1) hw0 hg
  obtain ⟨v2, hv2⟩ : ∃ v2, v2 = Value.slice (some ⟨r, 0, none⟩) ((s.row s.act).length + 1) cap := ⟨_, rfl⟩
  have hv2b : v2.ownBlock = some r := by rw [hv2]; rfl
  rw [← hv2] at hown ⊢
  have hrb : base ≤ r := (hown.lt r hv2b).1
  have hg2 := grown_set w1 g s.act v2
  have hsame : (w1.setCell ⟨g, s.act, none⟩ v2).cell? ⟨g, s.act, none⟩ = some v2 := World.cell?_setCell_same _ _ _ (by rw [hc]; exact (hV _ ha).1)
  have hoth : ∀ o, o ≠ s.act → (w1.setCell ⟨g, s.act, none⟩ v2).cell? ⟨g, o, none⟩ = w.cell? ⟨g, o, none⟩ := fun o ho => by
    rw [World.cell?_setCell_other _ _ _ _ (by simp; try omega), hc]
  have hfr : ∀ o, (w1.setCell ⟨g, s.act, none⟩ v2).frozen? ⟨g, o, none⟩ = false := fun o => by rw [World.frozen?_setCell]; exact hf o
  have hsz : w.heap.size ≤ (w1.setCell ⟨g, s.act, none⟩ v2).heap.size := Nat.le_trans hw0.size (Nat.le_trans hg.size hg2.size)
  have hrow : ∀ c, (Fl.mk (s.blk.set s.act (s.row s.act ++ [p])) s.loc s.er s.act).row c = if s.act = c then s.row s.act ++ [p] else s.row c := fun c => Fl.row_set s s.act c _ _ _ _ (by rw [h.blen]; exact ha)
  simp only
  generalize w1.setCell ⟨g, s.act, none⟩ v2 = w2 at *
  refine ⟨⟨by simp [h.blen], h.llen, ha, ⟨lo.1, lo.2.1, Nat.le_trans lo.2.2 hsz⟩, ⟨fun b => if b = s.act then v2 else V b, fun b hb => ?_, fun a b ha' hb' hab k hk => ?_⟩, fun q a i hq => ?_, ?_, hfr⟩, ?_, ?_⟩
  · rw [hrow]
    show w2.cell? ⟨g, b, none⟩ = some (if b = s.act then v2 else V b) ∧ w2.ownsRow base 89 2 (if b = s.act then v2 else V b) _ _
    by_cases hba : b = s.act
    · subst hba
      rw [if_pos rfl, if_pos rfl]
      refine ⟨hsame, ?_⟩
      rw [pagesV_append] at hown
      have h1 := hown.kept hg2 (.inr (by rw [hv2b]; simp; omega))
      simpa using h1
    · rw [if_neg hba, if_neg (fun e => hba e.symm), hoth b hba]
      refine ⟨(hV b hb).1, ?_⟩
      have h1 := ownsRow_later (hV b hb).2 hw0
      have hb1 : (V b).ownBlock = none ∨ (V b).ownBlock ≠ (V s.act).ownBlock := by
        rcases hk : (V b).ownBlock with _ | k
        · exact .inl rfl
        · exact .inr fun e => hne b s.act hb ha hba k hk e.symm
      exact (h1.kept hg hb1).kept hg2 (.inr (fun e => by have := ((hV b hb).2.lt g e).1; omega))
  · simp only at hk ⊢
    by_cases haa : a = s.act
    · rw [if_pos haa] at hk
      rw [if_neg (fun e => hab (haa.trans e.symm))]
      rw [hv2b] at hk
      cases hk
      intro e
      rcases hr with hr | rfl
      · exact hne b s.act hb' ha (fun e => hab (haa.trans e.symm)) r e hr
      · have := ((hV b hb').2.lt r e).2
        omega
    · rw [if_neg haa] at hk
      by_cases hbb : b = s.act
      · rw [if_pos hbb, hv2b]
        intro e
        cases e
        rcases hr with hr | rfl
        · exact hne a s.act ha' ha haa r hk hr
        · have := ((hV a ha').2.lt r hk).2
          omega
      · rw [if_neg hbb]
        exact hne a b ha' hb' hab k hk
  · rw [hoth _ (by omega), hoth _ (by omega), hoth _ (by omega)]
    exact h.locs q a i hq
  · rw [hoth _ (by omega)]
    exact h.acts
  · have e1 : Below B w w0 := hw0.mono (by omega)
    have e2 : Below B w w1 := e1.grown hg (Nat.le_trans (by omega) e1.size) (fun j hj => by have := (hva j hj).1; omega)
    exact e2.grown hg2 (Nat.le_trans (by omega) e2.size) (fun j hj => by cases hj; exact lo.1)
  · refine ⟨hsz, fun x cur ty fr hx hxg hty => ?_⟩
    have hxw := (Array.getElem?_eq_some_iff.1 hx).1
    have hx0 : x < w0.heap.size := Nat.lt_of_lt_of_le hxw hw0.size
    have hxv : some x ≠ (V s.act).ownBlock := fun e => by
      rcases (hV _ ha).2.2 with ⟨h', _⟩ | ⟨g', cap', cur', h', _, hgg, _⟩
      · rw [h'] at e; simp [Value.ownBlock] at e
      · rw [h'] at e; simp [Value.ownBlock] at e; subst e; rw [hgg] at hx; cases hx; exact hty.elim (fun h => h rfl) (fun h => by have := (hva x (by rw [h']; rfl)).1; omega)
    rw [hg2.block x (Nat.lt_of_lt_of_le hx0 hg.size) (by simp [hxg]), hg.block x hx0 hxv, hw0.block x hxw]
    exact hx

/-- behind the append -/
structure DownMid (w wx : World) (B base g : Nat) (s : Fl) (p : Page) (bx a n : Nat) : Prop where
  is : DiskIs wx B base g { s with blk := s.blk.set s.act (s.row s.act ++ [p]) }
  below : Below B w wx
  kept : KeptD w wx g base
  box : wx.cell? ⟨bx, 0, none⟩ = some (.int .i64 (p.1 : Nat))
  row : ∃ r cap, wx.cell? ⟨g, a, none⟩ = some (.slice (some ⟨r, 0, none⟩) (n + 1) cap)

set_option maxRecDepth 100000 in
set_option maxHeartbeats 4000000 in
theorem ldown_walk (w : World) (B base g : Nat) (s : Fl) (p : Page) (hs : DiskIs w B base g s) (hp : p.1 < 8) (hl : (s.row s.act).length ≤ 100) :
    Calls Tryd.prog 49 #[.pointer (some ⟨g, 0, none⟩), .agg #[.int .i64 (p.1 : Nat), .int .i64 p.2]] w fun e w' => e = .returned (.tuple #[]) ∧ DiskIs w' B base g (s.down p) ∧ Below B w w' ∧ KeptD w w' g base := by
  obtain ⟨i0, hi0, hz0, hz1, hz2⟩ := info_parts infoBk
  have HS := Lib.hid hs
  obtain ⟨V, hV, hne⟩ := hs.rows
  have HV := Lib.hid hV
  have HNE := Lib.hid hne
  have hact := hs.act
  have hc28 := hs.acts
  have hlo := hs.lo
  obtain ⟨c0, hown⟩ := hV s.act hact
  have hvb := hown.lt
  obtain ⟨va, cap, hva⟩ := own_shape' hown
  rw [hva] at c0 hown hvb
  have HOWN := Lib.hid hown
  obtain ⟨n, hn⟩ : ∃ n, n = (s.row s.act).length := ⟨_, rfl⟩
  rw [← hn] at c0 hl HOWN hva
  have HN := Lib.hid hn
  obtain ⟨a, ha⟩ : ∃ a, a = s.act := ⟨_, rfl⟩
  rw [← ha] at hc28 c0 hact hva
  have HVA := Lib.hid hva
  have HA := Lib.hid ha
  obtain ⟨pg, pv⟩ := p
  simp only at hp
  have hp8 : (pg : Int) < 8 := by omega
  have ha6 : (a : Int) < 6 := by omega
  have hgw : g < w.heap.size := by omega
  have hbw : base ≤ w.heap.size := hlo.2.2
  clear hs hV hne hva hown hn ha hvb hlo
  go_enter Tryd.func49, Tryd.ntmps49
  go_wp2_with fail
  obtain ⟨bx, hbx⟩ : ∃ bx, bx = w.heap.size := ⟨_, rfl⟩
  obtain ⟨w0, hw0⟩ : ∃ w0, w0 = w.alloc (.cells #[.int .i64 (pg : Nat), .int .i64 pv] 89) := ⟨_, rfl⟩
  have hbel : Below w.heap.size w w0 := by rw [hw0]; exact (Below.refl _ _).alloc (Nat.le_refl _) _
  have hb0 : w0.cell? ⟨bx, 0, none⟩ = some (.int .i64 (pg : Nat)) := by rw [hw0, World.cell?_alloc_at _ _ _ _ hbx]; rfl
  have hb1 : w0.cell? ⟨bx, 1, none⟩ = some (.int .i64 pv) := by rw [hw0, World.cell?_alloc_at _ _ _ _ hbx]; rfl
  have hbx0 : bx < w0.heap.size := by rw [hw0, hbx]; simp
  rw [← hw0, ← hbx]
  have C0 := Lib.hid c0
  have C28 := Lib.hid hc28
  rw [← hbel.cell (p := ⟨g, 30, none⟩) hgw] at hc28
  rw [← hbel.cell (p := ⟨g, a, none⟩) hgw] at c0
  have HBEL := Lib.hid hbel
  have HBX := Lib.hid hbx
  have HO0 := Lib.hid (ownsRow_later HOWN.out hbel)
  have hbw0 : base ≤ w0.heap.size := Nat.le_trans hbw hbel.size
  have hgw0 : g < w0.heap.size := Nat.lt_of_lt_of_le hgw hbel.size
  clear hw0 hbel hbx
  go_cut [4] (fun _ wx => DownMid w wx B base g s (pg, pv) bx a n)
  case first =>
   go_region_law
    ((refine step_append_lies _ (by rfl) _ _ _ (by rfl) base 89 i0 _ 2 16 Tryd.underlying79 hi0 hz0 hz1 hz2 rfl (by omega) (.slice va n cap) n (pagesV (s.row s.act)) (by rfl) (by exact (HO0.out.alloc _).drew) ⟨w0.heap.size, 0, none⟩ 1 1 [.int .i64 (pg : Nat), .int .i64 pv] (by rfl) (by rfl) (World.news_of_block (cs := #[.int .i64 (pg : Nat), .int .i64 pv]) (t := 89) (fr := (0, 0)) (heap_alloc_new w0 _)) (by simp [Value.oneCell']) (by omega) (by unfold maxLen; omega) (by omega) (by simp; omega) (w0.heap.size + 1) (by simp) ?_
      intro r cap' w1 hown1 hgrow hat hlt1
      have hst := HS.out.still (v := .slice va n cap) (fun k hk => (HOWN.out.lt k hk).1) ((HBEL.out.alloc HBEL.out.size (.cells #[.int .i64 (pg : Nat), .int .i64 pv] 89)).drew) hgrow
      have hw1 : w1.cell? ⟨g, a, none⟩ = some (.slice va n cap) := (hst.1 a).trans C0.out
      have hf1 := hst.2 a
      have hw28 : w1.cell? ⟨g, 30, none⟩ = some (.int .i64 (a : Nat)) := (hst.1 30).trans C28.out
      clear hst))
   all_goals
     have happ0 := HS.out.still (v := .slice va n cap) (fun k hk => (HOWN.out.lt k hk).1) ((HBEL.out.alloc HBEL.out.size (.cells #[.int .i64 (pg : Nat), .int .i64 pv] 89)).drew) hgrow
     have happ := HS.out.appended (p := (pg, pv)) (r := r) (cap := cap') (H := w0.heap.size + 1) HV.out HNE.out ((HBEL.out.alloc HBEL.out.size (.cells #[.int .i64 (pg : Nat), .int .i64 pv] 89)).drew) (by have := HBEL.out.size; omega) (by rw [← HA.out, HVA.out]; exact hgrow) (by rw [← HN.out]; exact hown1) (by rw [← HA.out, HVA.out]; exact hat)
     have hbxr : some bx ≠ (Value.slice va n cap).ownBlock := fun e => by have h1 := (HOWN.out.lt bx e.symm).2; have h2 := HBX.out; omega
     have hbc : ∀ o, (w1.setCell ⟨g, a, none⟩ (.slice (some ⟨r, 0, none⟩) (n + 1) cap')).cell? ⟨bx, o, none⟩ = w0.cell? ⟨bx, o, none⟩ := fun o => by
       rw [World.cell?_setCell_other _ _ _ _ (by simp; intro e; have h2 := HBX.out; omega), hgrow.cell_far ⟨bx, o, none⟩ (by simp; omega) hbxr]
       exact ((Below.refl w0.heap.size w0).alloc (Nat.le_refl _) _).cell (p := ⟨bx, o, none⟩) hbx0
     simp only at happ
     rw [← HN.out, ← HA.out] at happ
     have hb0' := (hbc 0).trans hb0
     obtain ⟨w2, hw2⟩ : ∃ w2, w2 = w1.setCell ⟨g, a, none⟩ (.slice (some ⟨r, 0, none⟩) (n + 1) cap') := ⟨_, rfl⟩
     rw [← hw2] at happ hb0'
     have hmid : DownMid w w2 B base g s (pg, pv) bx a n := by
       have h := happ
       rw [HA.out] at h
       exact ⟨h.1, h.2.1, h.2.2, hb0', r, cap', by rw [hw2]; exact World.cell?_setCell_same _ _ _ ((happ0.1 a).trans C0.out)⟩
     have HMID := Lib.hid hmid
     rw [← hw2]
     clear happ hbc hbxr hgrow hown1 hat hw1 hf1 hw28 hw2 happ0 hmid
     go_wp2_with fail
     go_meet
     exact HMID.out
  case rest =>
    have HC := Lib.hid hcut
    obtain ⟨hs2, -, -, hbox, r, cap', da⟩ := hcut
    have d28 := hs2.acts
    have df := hs2.free (6 + pg * 3)
    have df1 := hs2.free (6 + pg * 3 + 1)
    have df2 := hs2.free (6 + pg * 3 + 2)
    have hgw2 : g < wc.heap.size := by have := hs2.lo; omega
    obtain ⟨⟨a0, i0'⟩, hl0⟩ : ∃ e, s.loc[pg]? = some e := ⟨_, List.getElem?_eq_getElem (by rw [HS.out.llen]; exact hp)⟩
    obtain ⟨l1, l2, l3⟩ := hs2.locs pg a0 i0' hl0
    have HEND := Lib.hid (hs2.setLoc pg n a hp)
    simp only at d28 hbox
    rw [← HA.out] at d28
    clear hs2 hl0 c0 hc28 hb0 hb1
    have HST := Lib.hid (show ({ s with blk := s.blk.set s.act (s.row s.act ++ [(pg, pv)]), loc := s.loc.set pg ((a : Int), n) } : Fl) = s.down (pg, pv) by rw [HA.out, HN.out]; rfl)
    have s1 : IntKind.i64.wrap (n : Int) = (n : Int) := IntWalk.i64_in _ (by omega)
    have s2 : (0 : Int) ≤ (a : Int) := by omega
    have s3 : (0 : Int) ≤ (pg : Int) := by omega
    go_wp2_with fail
    go_region_law (fail)
    all_goals
      go_wp2_with fail
      go_end0
      obtain ⟨h1, h2⟩ := HEND.out
      have h3 := HC.out.below.grown h2 (by have := HC.out.is.lo; omega) (fun j hj => by cases hj; exact HS.out.lo.1)
      have h4 := HC.out.kept.trans (KeptD.grown_g h2)
      refine ⟨rfl, ?_, ?_, ?_⟩
      · rw [← HST.out]
        first | exact h1.drew | exact h1
      · first | exact h3.drew | exact h3
      · first | exact h4.drew | exact h4

end Go.Proofs.YtegibgflhhdddaaDoor.Lf
