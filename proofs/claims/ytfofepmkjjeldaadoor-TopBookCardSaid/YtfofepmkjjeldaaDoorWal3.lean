/- The log ahead: Write, End, Values. -/
import Derived.Test.YtfofepmkjjeldaaDoorWal2
namespace Go.Proofs.YtfofepmkjjeldaaDoor
open Go.RowKit Go.MapKept
open Go.ChangeMaps (setBlock)

set_option maxRecDepth 100000 in
set_option maxHeartbeats 4000000 in
theorem wwrite_walk (w : World) (bm gw t : Nat) (p x : Int) (L : List Rec) (E : List (Nat × Nat)) (h : DiskAt w bm gw L E) (ht : t ≤ 19) (hn : ∀ e ∈ E, e.1 ≠ t) (hL : L.length < 60) :
    Calls Tryd.prog 22 #[.pointer (some ⟨gw, 0, none⟩), .agg #[.int .i64 (t : Nat), .int .i64 p, .int .i64 x]] w fun e w' =>
      e = .returned (if okW p x then .nilIface else .iface 68 (.int .i64 1)) ∧ DiskAt w' bm gw (if okW p x then L ++ [⟨t, p.toNat, x.toNat, false⟩] else L) E ∧ WFrame w w' bm := by
  have hbmw : bm ≤ w.heap.size := by have := h.lt; have := h.glt; omega
  have hal := (Below.refl w.heap.size w).alloc (Nat.le_refl _) (.cells #[.int .i64 (t : Nat), .int .i64 p, .int .i64 x] 54)
  have HA := Lib.hid hal
  have HD := Lib.hid (h.later hal)
  have HF := Lib.hid (WFrame.of_below bm hal hbmw)
  have HN := Lib.hid hn
  clear hal h hn
  by_cases hok : okW p x
  · rw [if_pos hok, if_pos hok]
    obtain ⟨a1, a2, a3, a4⟩ := hok
    obtain ⟨p, rfl⟩ : ∃ n : Nat, p = n := ⟨p.toNat, by omega⟩
    obtain ⟨x, rfl⟩ : ∃ n : Nat, x = n := ⟨x.toNat, by omega⟩
    simp only [Int.toNat_natCast]
    go_enter Tryd.func22, Tryd.ntmps22
    go_wp2_with fail
    refine (wturn_walk _ bm gw t L E HD.out ht HN.out).mono ?_
    rintro _ w1 ⟨rfl, rfl⟩
    go_wp2_with fail
    refine (within_yes _ (by omega)).mono ?_
    rintro _ w1 ⟨rfl, rfl⟩
    go_wp2_with fail
    refine (within_yes _ (by omega)).mono ?_
    rintro _ w1 ⟨rfl, rfl⟩
    go_wp2_with fail
    refine (wdown_walk _ bm gw L E ⟨t, p, x, false⟩ HD.out hL).mono ?_
    rintro _ w5 ⟨rfl, hd5, hf5⟩
    have HD5 := Lib.hid hd5
    have HF5 := Lib.hid (HF.out.trans hf5)
    clear hd5 hf5
    go_wp2_with fail
    go_ret
    exact ⟨rfl, HD5.out, HF5.out⟩
  · rw [if_neg hok, if_neg hok]
    by_cases h3 : 0 ≤ p ∧ p ≤ 7
    · have h4 : ¬ (0 ≤ x ∧ x ≤ 1000) := fun h => hok ⟨h3.1, h3.2, h.1, h.2⟩
      go_enter Tryd.func22, Tryd.ntmps22
      go_wp2_with fail
      refine (wturn_walk _ bm gw t L E HD.out ht HN.out).mono ?_
      rintro _ w1 ⟨rfl, rfl⟩
      go_wp2_with fail
      refine (within_yes _ h3).mono ?_
      rintro _ w1 ⟨rfl, rfl⟩
      go_wp2_with fail
      refine (within_not _ h4).mono ?_
      rintro _ w1 ⟨rfl, rfl⟩
      go_wp2_with fail
      go_ret
      exact ⟨rfl, HD.out, HF.out⟩
    · go_enter Tryd.func22, Tryd.ntmps22
      go_wp2_with fail
      refine (wturn_walk _ bm gw t L E HD.out ht HN.out).mono ?_
      rintro _ w1 ⟨rfl, rfl⟩
      go_wp2_with fail
      refine (within_not _ h3).mono ?_
      rintro _ w1 ⟨rfl, rfl⟩
      go_wp2_with fail
      go_ret
      exact ⟨rfl, HD.out, HF.out⟩

theorem wadd_walk (w : World) (z c t : Nat) (E : List (Nat × Nat)) (hb : w.heap[z]? = some (.map (eents E) c)) (hn : ∀ e ∈ E, e.1 ≠ t) :
    Calls Tryd.prog 41 #[.map (some z), .int .i64 (t : Nat)] w fun e w' => e = .returned (.bool true) ∧ w' = setBlock w z (.map (eents (E ++ [(t, c)])) (c + 1)) := by
  have hl := look_eents E t hb hn
  have hu := update_eents E t hb hn
  clear hb hn
  go_enter Tryd.func41, Tryd.ntmps41
  go_wp2_with fail
  go_ret
  exact ⟨rfl, rfl⟩

theorem setBlockW_at {w : World} {b : Nat} (o : Obj) (h : b < w.heap.size) : (setBlock w b o).heap[b]? = some o := by
  unfold setBlock
  simp [h]
theorem setBlockW_other (w : World) {b x : Nat} (o : Obj) (h : x ≠ b) : (setBlock w b o).heap[x]? = w.heap[x]? := by
  unfold setBlock
  simp [Ne.symm h]
theorem DiskAt.ended {w : World} {bm gw c t : Nat} {L : List Rec} {E : List (Nat × Nat)} (h : DiskAt w bm gw L E) (hc : w.heap[bm]? = some (.map (eents E) c)) :
    DiskAt (setBlock w bm (.map (eents (E ++ [(t, c)])) (c + 1))) bm gw L (E ++ [(t, c)]) ∧ WFrame w (setBlock w bm (.map (eents (E ++ [(t, c)])) (c + 1))) bm := by
  have hbl : bm < w.heap.size := (Array.getElem?_eq_some_iff.1 hc).1
  have hoth : ∀ (x : Nat) cs t' fr, w.heap[x]? = some (.cells cs t' fr) → (setBlock w bm (.map (eents (E ++ [(t, c)])) (c + 1))).heap[x]? = w.heap[x]? := fun x cs t' fr hx => setBlockW_other w _ (fun e => by
    subst e
    rw [hc] at hx
    cases hx)
  obtain ⟨v, hv, hown⟩ := h.cells
  refine ⟨⟨⟨v, (hoth gw _ _ _ hv).trans hv, ownsRow_block hown (fun k hk => ?_)⟩, ⟨c + 1, setBlockW_at _ hbl⟩, h.lt⟩, ⟨by unfold setBlock; simp, fun B hB => ⟨rfl, rfl, rfl, by unfold setBlock; simp, fun x hx => setBlockW_other w _ (by omega)⟩, fun x cs t' fr hx _ _ => hoth x cs t' fr hx⟩⟩
  rcases hown.2 with ⟨rfl, -⟩ | ⟨g', cap', cur, rfl, -, hh, -⟩
  · cases hk
  · cases hk
    exact hoth _ _ _ _ hh

set_option maxRecDepth 100000 in
set_option maxHeartbeats 4000000 in
theorem wend_walk (w : World) (bm gw t : Nat) (L : List Rec) (E : List (Nat × Nat)) (h : DiskAt w bm gw L E) (ht : t ≤ 19) (hn : ∀ e ∈ E, e.1 ≠ t) (hL : L.length < 60) :
    Calls Tryd.prog 24 #[.pointer (some ⟨gw, 0, none⟩), .int .i64 (t : Nat)] w fun e w' =>
      e = .returned .nilIface ∧ (∃ c, DiskAt w' bm gw (L ++ [⟨t, 0, 0, true⟩]) (E ++ [(t, c)])) ∧ WFrame w w' bm := by
  have HD := Lib.hid h
  have HN := Lib.hid hn
  clear h hn
  go_enter Tryd.func24, Tryd.ntmps24
  go_wp2_with fail
  refine (wturn_walk _ bm gw t L E HD.out ht HN.out).mono ?_
  rintro _ w1 ⟨rfl, rfl⟩
  go_wp2_with fail
  refine (wdown_walk _ bm gw L E ⟨t, 0, 0, true⟩ HD.out hL).mono ?_
  rintro _ w5 ⟨rfl, hd5, hf5⟩
  obtain ⟨v, hv, -⟩ := hd5.cells
  obtain ⟨c, hc⟩ := hd5.map
  have h10 := (disk_cell hv 10).1
  rw [show (diskCells v bm)[10]? = some (.map (some bm)) from rfl] at h10
  have HE := Lib.hid (hd5.ended (t := t) hc)
  have HF := Lib.hid hf5
  have HC := Lib.hid hc
  clear hd5 hf5 hv hc
  go_wp2_with fail
  refine (wadd_walk w5 bm c t E HC.out HN.out).mono ?_
  rintro _ w6 ⟨rfl, rfl⟩
  go_wp2_with fail
  go_ret
  exact ⟨rfl, ⟨c, HE.out.1⟩, HF.out.trans HE.out.2⟩

end Go.Proofs.YtfofepmkjjeldaaDoor
