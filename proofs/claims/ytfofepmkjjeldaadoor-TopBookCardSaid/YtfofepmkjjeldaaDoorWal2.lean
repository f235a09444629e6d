/- The log ahead: New, turn, down, Write, End. -/
import Derived.Test.YtfofepmkjjeldaaDoorWal1
import Derived.Deep.AppendLies
import Derived.Deep.RegionHeld3
namespace Go.Proofs.YtfofepmkjjeldaaDoor
open Go.RowKit Go.MapKept
open Go.ChangeMaps (setBlock)

set_option maxRecDepth 100000 in
theorem wnew_walk (w : World) :
    Calls Tryd.prog 21 #[] w fun e w' => e = .returned (.pointer (some ⟨w.heap.size + 1, 0, none⟩)) ∧ DiskAt w' w.heap.size (w.heap.size + 1) [] [] ∧ Below w.heap.size w w' := by
  have hmm := @run_makeMap Tryd.prog
  go_enter Tryd.func21, Tryd.ntmps21
  go_wp2_with fail
  go_ret
  refine ⟨rfl, ⟨⟨.slice none 0 0, ?_, World.ownsRow_nil ..⟩, ⟨0, ?_⟩, by omega⟩, ((Below.refl _ _).alloc (Nat.le_refl _) _).alloc (by simp) _⟩
  · have h := heap_alloc_new (w.alloc (.map #[] 0)) (.cells (diskCells (.slice none 0 0) w.heap.size) 83)
    rw [World.size_alloc] at h
    exact h
  · exact (Below.heap_alloc _ _ _ (by simp)).trans (heap_alloc_new w _)

theorem disk_cell {w : World} {bm gw : Nat} {v : Value} (h : w.heap[gw]? = some (.cells (diskCells v bm) 83 (0, 0))) (j : Nat) : w.cell? ⟨gw, j, none⟩ = (diskCells v bm)[j]? ∧ w.frozen? ⟨gw, j, none⟩ = false := by
  refine ⟨?_, ?_⟩
  · unfold World.cell?; simp only; rw [h]; rfl
  · unfold World.frozen?; simp only; rw [h]; simp

set_option maxRecDepth 100000 in
theorem wturn_walk (w : World) (bm gw t : Nat) (L : List Rec) (E : List (Nat × Nat)) (h : DiskAt w bm gw L E) (ht : t ≤ 19) (hn : ∀ e ∈ E, e.1 ≠ t) :
    Calls Tryd.prog 39 #[.pointer (some ⟨gw, 0, none⟩), .int .i64 (t : Nat)] w fun e w' => e = .returned .nilIface ∧ w = w' := by
  obtain ⟨v, hv, -⟩ := h.cells
  obtain ⟨c, hc⟩ := h.map
  have hl := look_eents E t hc hn
  have h10 := (disk_cell hv 10).1
  rw [show (diskCells v bm)[10]? = some (.map (some bm)) from rfl] at h10
  clear h hv hc
  go_enter Tryd.func39, Tryd.ntmps39
  go_wp2_with fail
  refine (within_yes _ (by omega)).mono ?_
  rintro _ w1 ⟨rfl, rfl⟩
  go_wp2_with fail
  go_ret
  exact ⟨rfl, rfl⟩

theorem infoRec : (Tryd.prog.info? 86).map (fun i => (i.zero, i.size, i.bytes)) = some (some (.agg #[.int .i64 0, .int .i64 0, .int .i64 0, .bool false]), 4, 32) := by kernel_rfl

def recAgg (r : Rec) : Value := .agg #[.int .i64 (r.turn : Nat), .int .i64 (r.blk : Nat), .int .i64 (r.val : Nat), .bool r.fin]

theorem disk_down {w W2 w1 : World} {bm gw : Nat} {L : List Rec} {E : List (Nat × Nat)} {v : Value} {r n cap : Nat} {c : Nat} (x : Rec) (hv : w.heap[gw]? = some (.cells (diskCells v bm) 83 (0, 0))) (hm : w.heap[bm]? = some (.map (eents E) c)) (hlt : bm < gw)
    (hown : w.ownsRow (gw + 1) 86 4 v L.length (recsV L)) (hb2 : Below w.heap.size w W2) (hgrow : W2.grownBy w1 v.ownBlock) (hown1 : w1.ownsRow (gw + 1) 86 4 (.slice (some ⟨r, 0, none⟩) n cap) (L.length + 1) (recsV L ++ recV x)) :
    (w1.cell? ⟨gw, 8, none⟩ = some v ∧ w1.frozen? ⟨gw, 8, none⟩ = false) ∧ DiskAt (w1.setCell ⟨gw, 8, none⟩ (.slice (some ⟨r, 0, none⟩) n cap)) bm gw (L ++ [x]) E ∧ WFrame w (w1.setCell ⟨gw, 8, none⟩ (.slice (some ⟨r, 0, none⟩) n cap)) bm := by
  have hgl : gw < w.heap.size := (Array.getElem?_eq_some_iff.1 hv).1
  have hs2 := hb2.size
  have hrow : ∀ k, v.ownBlock = some k → gw < k := fun k hk => by have := (hown.lt k hk).1; omega
  have hold : ∀ y, y < w.heap.size → some y ≠ v.ownBlock → w1.heap[y]? = w.heap[y]? := fun y hy hne => (hgrow.block y (by omega) hne).trans (hb2.block y hy)
  have hg1 : w1.heap[gw]? = some (.cells (diskCells v bm) 83 (0, 0)) := (hold gw hgl (fun e => by have := hrow gw e.symm; omega)).trans hv
  have hm1 : w1.heap[bm]? = some (.map (eents E) c) := (hold bm (by omega) (fun e => by have := hrow bm e.symm; omega)).trans hm
  have hset : (w1.setCell ⟨gw, 8, none⟩ (.slice (some ⟨r, 0, none⟩) n cap)).heap[gw]? = some (.cells (diskCells (.slice (some ⟨r, 0, none⟩) n cap) bm) 83 (0, 0)) := by
    unfold World.setCell
    simp only [Array.getElem?_modify, if_true, hg1]
    rfl
  have hoth : ∀ y, y ≠ gw → (w1.setCell ⟨gw, 8, none⟩ (.slice (some ⟨r, 0, none⟩) n cap)).heap[y]? = w1.heap[y]? := fun y hy => heap_setCell_other w1 ⟨gw, 8, none⟩ y _ hy
  refine ⟨?_, ⟨⟨_, hset, ?_⟩, ⟨c, (hoth bm (by omega)).trans hm1⟩, hlt⟩, ?_, fun B hB => ?_, fun y cs t fr hy h1 h2 => ?_⟩
  · have h8 := disk_cell hg1 8
    exact ⟨h8.1, h8.2⟩
  · rw [recsV_snoc, List.length_append]
    exact ownsRow_block hown1 (fun k hk => hoth k (by have := (hown1.lt k hk).1; omega))
  · have h1 := hgrow.size
    simp
    omega
  · have h1 : Below B w W2 := hb2.mono (by omega)
    have h2 : Below B w w1 := h1.grown hgrow (by omega) (fun k hk => by have := hrow k hk; omega)
    exact h2.setCell (p := ⟨gw, 8, none⟩) (by simp only; omega) _
  · have hyl := (Array.getElem?_eq_some_iff.1 hy).1
    have hyg : y ≠ gw := fun e => by
      subst e
      rw [hv] at hy
      cases hy
      exact h1 rfl
    rw [hoth y hyg]
    refine hold y hyl (fun e => ?_)
    rcases hown.2 with ⟨rfl, -⟩ | ⟨g', cap', cur, rfl, -, hh, -⟩
    · cases e
    · cases e
      rw [hh] at hy
      cases hy
      exact h2 rfl

set_option maxRecDepth 100000 in
set_option maxHeartbeats 4000000 in
theorem wdown_walk (w : World) (bm gw : Nat) (L : List Rec) (E : List (Nat × Nat)) (x : Rec) (h : DiskAt w bm gw L E) (hL : L.length < 60) :
    Calls Tryd.prog 40 #[.pointer (some ⟨gw, 0, none⟩), recAgg x] w fun e w' => e = .returned .nilIface ∧ DiskAt w' bm gw (L ++ [x]) E ∧ WFrame w w' bm := by
  obtain ⟨i0, hi0, hz0, hz1, hz2⟩ := info_parts infoRec
  obtain ⟨v, hv, hown⟩ := h.cells
  obtain ⟨c, hc⟩ := h.map
  obtain ⟨n, hn⟩ : ∃ n, n = L.length := ⟨_, rfl⟩
  obtain ⟨va, cap, rfl⟩ : ∃ va cap, v = .slice va n cap := by
    rcases hown.2 with ⟨rfl, h⟩ | ⟨g', cap', cur, rfl, -⟩
    · exact ⟨none, 0, by rw [hn, h]⟩
    · exact ⟨_, _, by rw [hn]⟩
  have HV := Lib.hid hv
  have HC := Lib.hid hc
  have HLT := Lib.hid h.lt
  have HN := Lib.hid hn
  have hglt := h.glt
  rw [← hn] at hown hL
  have HOWN := Lib.hid hown
  have c8 := (disk_cell hv 8).1
  have f8 := (disk_cell hv 8).2
  rw [show (diskCells (.slice va n cap) bm)[8]? = some (.slice va n cap) from rfl] at c8
  have hq : ((n : Int) == 60) = false := beq_eq_false_iff_ne.2 (by omega)
  obtain ⟨xt, xb, xv, xf⟩ := x
  unfold recAgg
  clear h hv hc hn hown
  go_enter Tryd.func40, Tryd.ntmps40
  go_wp2_with fail
  have hbb : Below w.heap.size w ((w.alloc (.cells #[.int .i64 (xt : Nat), .int .i64 (xb : Nat), .int .i64 (xv : Nat), .bool xf] 86)).alloc (.cells #[.int .i64 (xt : Nat), .int .i64 (xb : Nat), .int .i64 (xv : Nat), .bool xf] 86)).drew := (((Below.refl _ _).alloc (Nat.le_refl _) _).alloc (by simp) _).drew
  have HBB := Lib.hid hbb
  clear hbb
  go_region_law
    ((refine step_append_lies _ (by rfl) _ _ _ (by rfl) (gw + 1) 86 i0 _ 4 32 Tryd.underlying81 hi0 hz0 hz1 hz2 rfl (by omega) (.slice va n cap) n (recsV L) (by rfl) (by exact ((HOWN.out.alloc _).alloc _).drew) ⟨w.heap.size + 1, 0, none⟩ 1 1 [.int .i64 (xt : Nat), .int .i64 (xb : Nat), .int .i64 (xv : Nat), .bool xf] (by rfl) (by rfl) (World.news_of_block (cs := #[.int .i64 (xt : Nat), .int .i64 (xb : Nat), .int .i64 (xv : Nat), .bool xf]) (t := 86) (fr := (0, 0)) (by have h := heap_alloc_new (w.alloc (.cells #[.int .i64 (xt : Nat), .int .i64 (xb : Nat), .int .i64 (xv : Nat), .bool xf] 86)) (.cells #[.int .i64 (xt : Nat), .int .i64 (xb : Nat), .int .i64 (xv : Nat), .bool xf] 86); rw [World.size_alloc] at h; exact h)) (by simp [Value.oneCell']) (by omega) (by unfold maxLen; omega) (by omega) (by simp; omega) (w.heap.size + 1 + 1) (by simp) ?_
      intro r cap' w1 hown1 hgrow hat hlt1
      have HD := Lib.hid (disk_down (r := r) (cap := cap') (n := n + 1) ⟨xt, xb, xv, xf⟩ HV.out HC.out HLT.out (by rw [← HN.out]; exact HOWN.out) HBB.out hgrow (by rw [← HN.out]; exact hown1))
      have hw1 := HD.out.1.1
      have hw2 := HD.out.1.2))
  all_goals
    clear hown1 hgrow hat hw1 hw2 c8 f8
    go_wp2_with fail
    go_ret
    exact ⟨rfl, HD.out.2⟩

end Go.Proofs.YtfofepmkjjeldaaDoor
