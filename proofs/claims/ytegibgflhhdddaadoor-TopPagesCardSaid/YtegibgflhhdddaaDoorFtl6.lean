/- The walk of next. -/
import Derived.Test.YtegibgflhhdddaaDoorFtl3
import Derived.Test.YtegibgflhhdddaaDoorFtl5
import Derived.Deep.RegionWith
namespace Go.Proofs.YtegibgflhhdddaaDoor
open Go.RowKit Ftl

def empTo (s : Fl) (k : Nat) : List Nat := (List.range k).filter fun b => decide ((s.row b).length = 0)
theorem empTo_6 (s : Fl) : empTo s 6 = s.empties := rfl
theorem empTo_yes {s : Fl} {k : Nat} (h : (s.row k).length = 0) : empTo s (k + 1) = empTo s k ++ [k] := by
  unfold empTo; rw [List.range_succ, List.filter_append]; simp [List.length_eq_zero_iff.1 h]
theorem empTo_no {s : Fl} {k : Nat} (h : (s.row k).length ≠ 0) : empTo s (k + 1) = empTo s k := by
  unfold empTo; rw [List.range_succ, List.filter_append]
  have : decide ((s.row k).length = 0) = false := decide_eq_false h
  simp only [List.filter_cons, this, List.filter_nil]
  simp
theorem empTo_length (s : Fl) (k : Nat) : (empTo s k).length ≤ k := by
  unfold empTo; exact Nat.le_trans (List.length_filter_le _ _) (by simp)

/-- within next: the flash, and the box of its pointer -/
structure NextIs (w wr : World) (B base g cb : Nat) (s : Fl) : Prop where
  is : FlashIs wr B base g s
  box : wr.heap[cb]? = some (.cells #[.pointer (some ⟨g, 0, none⟩)] 23 (0, 0))
  below : Below B w wr
  kept : KeptF w wr g
  size : w.heap.size < wr.heap.size
theorem NextIs.later {w wr wr' : World} {B base g cb : Nat} {s : Fl} (h : NextIs w wr B base g cb s) (hb : Below wr.heap.size wr wr') : NextIs w wr' B base g cb s :=
  ⟨h.is.below hb, by rw [hb.block cb (Array.getElem?_eq_some_iff.1 h.box).1]; exact h.box, h.below.trans (hb.mono (by have := h.is.lo; omega)), h.kept.trans (KeptF.of_below g hb), Nat.lt_of_lt_of_le h.size hb.size⟩
theorem NextIs.cell {w wr : World} {B base g cb : Nat} {s : Fl} (h : NextIs w wr B base g cb s) : wr.cell? ⟨cb, 0, none⟩ = some (.pointer (some ⟨g, 0, none⟩)) := by
  unfold World.cell?; rw [h.box]; rfl

theorem NextIs.len {w wr : World} {B base g cb : Nat} {s : Fl} (h : NextIs w wr B base g cb s) {b : Nat} (hb : b < 6) : ∃ va cap, wr.cell? ⟨g, b, none⟩ = some (.slice va (s.row b).length cap) := by
  obtain ⟨V, hV, -⟩ := h.is.rows
  obtain ⟨c0, hown⟩ := hV b hb
  obtain ⟨va, cap, hva⟩ := own_shape' hown
  exact ⟨va, cap, by rw [c0, hva]⟩

theorem NextIs.stored {w wr wr' : World} {B base g cb : Nat} {s s' : Fl} (h : NextIs w wr B base g cb s) (hgc : g < cb) (hf : FlashIs wr' B base g s') (hg : wr.grownBy wr' (some g)) : NextIs w wr' B base g cb s' :=
  ⟨hf, by rw [hg.block cb (Array.getElem?_eq_some_iff.1 h.box).1 (by simp; omega)]; exact h.box, h.below.grown hg (by have := h.is.lo; omega) (fun k hk => by cases hk; exact h.is.lo.1), h.kept.trans (KeptF.grown_g hg), Nat.lt_of_lt_of_le h.size hg.size⟩
theorem NextIs.called {w wr wr' : World} {B base g cb : Nat} {s s' : Fl} (h : NextIs w wr B base g cb s) (hgc : g < cb) (hf : FlashIs wr' B base g s') (hb : Below B wr wr') (hk : KeptF wr wr' g) : NextIs w wr' B base g cb s' :=
  ⟨hf, hk.2 cb _ _ _ h.box (by omega) (by decide), h.below.trans hb, h.kept.trans hk, Nat.lt_of_lt_of_le h.size hk.1⟩
theorem NextIs.drew {w wr : World} {B base g cb : Nat} {s : Fl} (h : NextIs w wr B base g cb s) : NextIs w wr.drew B base g cb s := h.later (Below.refl _ _).drew

theorem infoInt : (Tryd.prog.info? 3).map (fun i => (i.zero, i.size, i.bytes)) = some (some (.int .i64 0), 1, 8) := by kernel_rfl

/-- an append to a row of integers beyond the box -/
theorem NextIs.pushed {w wr w5 : World} {B base g cb : Nat} {s : Fl} {v : Value} {n : Nat} {xs : List Value} {o : Obj} (h : NextIs w wr B base g cb s) (hv : wr.ownsRow (cb + 1) 3 1 v n xs) (hcb : w.heap.size ≤ cb) (hgw0 : g < w.heap.size) (hg : (wr.alloc o).grownBy w5 v.ownBlock) : NextIs w w5 B base g cb s := by
  have hb : Below wr.heap.size wr (wr.alloc o) := (Below.refl _ _).alloc (Nat.le_refl _) _
  have h1 := h.later hb
  obtain ⟨is, box, below, kept, size⟩ := h1
  have hvb := hv.lt
  have hcw : cb < (wr.alloc o).heap.size := (Array.getElem?_eq_some_iff.1 box).1
  -- the row's block is of integers
  have hty : ∀ k, v.ownBlock = some k → ∃ cur, (wr.alloc o).heap[k]? = some (.cells cur 3 (0, 0)) := by
    intro k hk
    rcases hv.2 with ⟨rfl, -⟩ | ⟨r, cap, cur, rfl, hr, hh, -⟩
    · simp [Value.ownBlock] at hk
    · simp [Value.ownBlock] at hk
      subst hk
      exact ⟨cur, by rw [hb.block r (hvb r rfl).2]; exact hh⟩
  have lo := is.lo
  have hgne : some g ≠ v.ownBlock := fun e => by have := (hvb g e.symm).1; have := h.is.lo; omega
  have hgw : g < (wr.alloc o).heap.size := by omega
  obtain ⟨V, hV, hne⟩ := is.rows
  refine ⟨⟨is.blen, is.llen, is.elen, is.act, ⟨lo.1, lo.2.1, Nat.le_trans lo.2.2 hg.size⟩, ⟨V, fun b hb6 => ⟨?_, ?_⟩, hne⟩, fun p a i hp => ?_, fun b m hm => ?_, ?_, fun q => ?_⟩, ?_, ?_, ?_, Nat.lt_of_lt_of_le size hg.size⟩
  · rw [hg.cell_far ⟨g, b, none⟩ hgw hgne]; exact (hV b hb6).1
  · refine (hV b hb6).2.kept hg ?_
    rcases hvo : (V b).ownBlock with _ | k
    · exact .inl rfl
    · right
      intro e
      obtain ⟨cur, hc⟩ := hty k e.symm
      rcases (hV b hb6).2.2 with ⟨h', -⟩ | ⟨r, cap, cur', h', hr, hh, -⟩
      · rw [h'] at hvo; simp [Value.ownBlock] at hvo
      · rw [h'] at hvo; simp [Value.ownBlock] at hvo; subst hvo; rw [hh] at hc; simp at hc
  · rw [hg.cell_far ⟨g, _, none⟩ hgw hgne, hg.cell_far ⟨g, _, none⟩ hgw hgne]; exact is.locs p a i hp
  · rw [hg.cell_far ⟨g, _, none⟩ hgw hgne]; exact is.ers b m hm
  · rw [hg.cell_far ⟨g, _, none⟩ hgw hgne]; exact is.acts
  · rw [hg.frozen_far ⟨g, q, none⟩ hgw hgne]; exact is.free q
  · rw [hg.block cb hcw (fun e => by have := (hvb cb e.symm).1; omega)]; exact box
  · exact below.grown hg (by omega) (fun k hk => by have := (hvb k hk).1; have := h.is.lo; omega)
  · refine ⟨Nat.le_trans kept.1 hg.size, fun x cur t fr hx hxg ht => ?_⟩
    have h2 := kept.2 x cur t fr hx hxg ht
    have hxw := (Array.getElem?_eq_some_iff.1 hx).1
    rw [hg.block x (Array.getElem?_eq_some_iff.1 h2).1 (fun e => by have := (hvb x e.symm).1; omega)]
    exact h2

set_option maxRecDepth 100000 in
set_option maxHeartbeats 4000000 in
theorem next_walk (w : World) (B base g : Nat) (s : Fl) (hs : FlashIs w B base g s) (hok : Ok s) (hf : (s.row s.act).length = 4) (hm : ∀ b, s.times b ≤ 999999) :
    Calls Tryd.prog 39 #[.pointer (some ⟨g, 0, none⟩)] w fun e w' => e = .returned (.tuple #[]) ∧ FlashIs w' B base g s.next ∧ Below B w w' ∧ KeptF w w' g := by
  have HOK := Lib.hid hok
  have HF := Lib.hid hf
  have HM := Lib.hid hm
  obtain ⟨cb, hcb⟩ : ∃ cb, cb = w.heap.size := ⟨_, rfl⟩
  have hn0 : NextIs w (w.alloc (.cells #[.pointer (some ⟨g, 0, none⟩)] 23)) B base g cb s := by
    have hb : Below w.heap.size w (w.alloc (.cells #[.pointer (some ⟨g, 0, none⟩)] 23)) := (Below.refl _ _).alloc (Nat.le_refl _) _
    exact ⟨hs.below hb, by rw [hcb]; exact heap_alloc_new _ _, hb.mono (by have := hs.lo; omega), KeptF.of_below g hb, by simp⟩
  have HN0 := Lib.hid hn0
  have hgw : g < w.heap.size := by have := hs.lo; omega
  have HS := Lib.hid hs
  clear hs hok hf hm hn0
  go_enter Tryd.func39, Tryd.ntmps39
  go_wp2_with fail
  rw [← hcb]
  have HCB := Lib.hid hcb
  clear hcb
  go_loopw [2, 9] (fun v ix wr => ∃ (k : Nat) (va : Option Addr) (cap : Nat), k ≤ 6 ∧ ix = .int .i64 k ∧ v = .slice va (empTo s k).length cap ∧ wr.ownsRow (cb + 1) 3 1 (.slice va (empTo s k).length cap) (empTo s k).length (natsV (empTo s k)) ∧ NextIs w wr B base g cb s) (fun _ ix _ => 6 - (intOf ix).toNat)
  case atStart => exact ⟨0, none, 0, by omega, rfl, rfl, World.ownsRow_nil _ _ _ _, HN0.out⟩
  case round =>
    obtain ⟨k, va, cap, hk, rfl, rfl, ho, hn⟩ := hrel
    have HO := Lib.hid ho
    have HN := Lib.hid hn
    by_cases hlt : k < 6
    · have q1 : decide ((k : Int) < 6) = true := decide_eq_true (by omega)
      have hk6 : (k : Int) < 6 := by omega
      have c0 := hn.cell
      obtain ⟨vb, capb, c1⟩ := hn.len hlt
      have hgr : g < wr.heap.size := by have := hn.is.lo; omega
      have hcr : cb + 1 ≤ wr.heap.size := (Array.getElem?_eq_some_iff.1 hn.box).1
      have hln := empTo_length s k
      by_cases he : (s.row k).length = 0
      · have HE := Lib.hid (empTo_yes he)
        rw [he] at c1
        have HN1 := Lib.hid (show (empTo s k).length + 1 ≤ maxLen by unfold maxLen; omega)
        have HN2 := Lib.hid (show ((empTo s k).length + 1) * 8 ≤ 140737488355328 by omega)
        clear ho hn he
        go_wp2_with (at_builtin; go_must (refine wpList_push (u := .int .i64 (k : Nat)) (.int .i64 0) 8 HO.out Tryd.underlying25 infoInt rfl rfl rfl rfl HN1.out HN2.out hcr ?_; intro v' w5 hown1 hbel1 hgr1; have HO1 := Lib.hid hown1; have HB1 := Lib.hid (NextIs.pushed HN.out HO.out (by have := HCB.out; omega) hgw hgr1); clear hown1 hbel1 hgr1))
        go_roundw
        case rel =>
          obtain ⟨va', cap', rfl⟩ := own_shape' HO1.out
          have e1 : (empTo s (k + 1)).length = (empTo s k).length + 1 := by rw [HE.out]; simp
          have h := HO1.out
          rw [show natsV (empTo s k) ++ [.int .i64 (k : Nat)] = natsV (empTo s (k + 1)) by rw [HE.out]; simp [natsV]] at h
          exact ⟨k + 1, va', cap', by omega, by go_num, by rw [e1], by rw [e1]; exact h, HB1.out⟩
        case measure => simp [intOf]; omega
      · have HE := Lib.hid (empTo_no he)
        have q2 : (((s.row k).length : Int) == 0) = false := beq_eq_false_iff_ne.2 (by omega)
        obtain ⟨m, hm⟩ : ∃ m, m = (s.row k).length := ⟨_, rfl⟩
        rw [← hm] at c1 q2
        clear ho hn he hm
        go_wp2_with fail
        go_roundw
        case rel => exact ⟨k + 1, va, cap, by omega, by go_num, by rw [HE.out], by rw [HE.out]; exact HO.out, HN.out⟩
        case measure => simp [intOf]; omega
    · obtain rfl : k = 6 := by omega
      have c0 := hn.cell
      have d28 := hn.is.acts
      have df := hn.is.free 28
      have hgr : g < wr.heap.size := by have := hn.is.lo; omega
      rw [empTo_6] at ho HO ⊢
      obtain ⟨n, hnn⟩ : ∃ n, n = s.empties.length := ⟨_, rfl⟩
      have hn6 : n ≤ 6 := by rw [hnn]; exact empTo_length s 6
      have HNN := Lib.hid hnn
      rw [← hnn]
      have HB := Lib.hid HOK.out.best_is
      clear ho hn hnn
      go_wp2_with fail
      have HBD := Lib.hid (show Below wr.heap.size wr wr.drew from (Below.refl _ _).drew)
      have HSD := Lib.hid (HN.out.is.below HBD.out)
      have HCD := Lib.hid (show wr.drew.cell? ⟨cb, 0, none⟩ = some (.pointer (some ⟨g, 0, none⟩)) from HN.out.cell)
      have HOD := Lib.hid (show wr.drew.ownsRow (cb + 1) 3 1 (.slice va n cap) s.empties.length (natsV s.empties) from by rw [HNN.out]; exact HO.out)
      have HL6 := Lib.hid (show s.empties.length ≤ 6 by rw [← HNN.out]; exact hn6)
      have HM6 := Lib.hid (fun b => Nat.le_trans (HM.out b) (show 999999 ≤ 1000000 by omega))
      go_cut [28] (fun _ wx => NextIs w wx B base g cb s.turn)
      case first =>
        go_region_with ((go_at_call 53; refine (min_walk _ B base g cb (cb + 1) s _ s.empties HSD.out HCD.out HOD.out HOK.out.empties_ne HL6.out (fun b hb => (Fl.mem_empties.1 hb).1) HM6.out).mono ?_; rintro _ w5 ⟨rfl, hb5⟩; have hN5 := HN.out.later (HBD.out.trans hb5); have hc5 := hN5.cell; have h28 := hN5.is.acts; have hf28 := hN5.is.free 28; have HB5 := Lib.hid hb5; clear hb5 hN5))
        all_goals
          have hN5 := HN.out.later (HBD.out.trans HB5.out)
          obtain ⟨h1, h2⟩ := hN5.is.setAct s.best HB.out.1
          have HEND := Lib.hid (hN5.stored (s' := s.turn) (by have := HCB.out; omega) h1 h2)
          clear h1 h2 hN5
          go_wp2_with fail
          go_meet
          first | exact HEND.out | exact HEND.out.drew
      case rest =>
        have HT := Lib.hid hcut
        clear hcut d28 df c0
        by_cases hmany : 1 < n
        · have q2 : decide ((1 : Int) < (n : Int)) = true := decide_eq_true (by omega)
          have q2' : decide (1 < n) = true := decide_eq_true hmany
          have HX := Lib.hid (show s.next = s.turn by unfold Fl.next; rw [if_pos (by rw [← HNN.out]; exact hmany)])
          go_wp2_with fail
          refine bodyPost_ret (results_none rfl _ _ _) rfl ?_
          exact ⟨rfl, by rw [HX.out]; exact HT.out.is, HT.out.below, HT.out.kept⟩
        · have q2 : decide ((1 : Int) < (n : Int)) = false := decide_eq_false (by omega)
          have q2' : decide (1 < n) = false := decide_eq_false hmany
          obtain ⟨t, ht⟩ : ∃ t, t = s.turn := ⟨_, rfl⟩
          rw [← ht] at HT
          have HTT := Lib.hid ht
          have HSM := Lib.hid (show ∀ b, (t.row b).length ≤ 4 by rw [ht]; exact HOK.out.small)
          have HPG := Lib.hid (show ∀ b, ∀ p ∈ t.row b, p.1 < 8 by rw [ht]; exact HOK.out.page)
          have hact6 : t.act < 6 := by rw [ht]; exact HB.out.1
          clear ht
          go_wp2_with fail
          go_loopw [4, 5, 34] (fun wv bv ix wr => ∃ k : Nat, k ≤ 6 ∧ ix = .int .i64 k ∧ wv = .int .i64 (t.worstTo k) ∧ NextIs w wr B base g cb t) (fun _ _ ix _ => 6 - (intOf ix).toNat)
          case atStart => exact ⟨0, by omega, rfl, rfl, HT.out⟩
          case round =>
            obtain ⟨k, hk, rfl, rfl, hn⟩ := hrel
            have HN2 := Lib.hid hn
            by_cases hlt : k < 6
            · have q1 : decide ((k : Int) < 6) = true := decide_eq_true (by omega)
              have c0 := hn.cell
              have c28 := hn.is.acts
              have hgr : g < wr.heap.size := by have := hn.is.lo; omega
              obtain ⟨a, ha⟩ : ∃ a, a = t.act := ⟨_, rfl⟩
              rw [← ha] at c28
              have HST := Lib.hid (show t.worstTo (k + 1) = if k ≠ a ∧ (t.worstTo k < 0 ∨ (t.live k).length < (t.live (t.worstTo k).toNat).length) then (k : Int) else t.worstTo k by rw [ha]; rfl)
              obtain ⟨wb1, wb2, -⟩ := t.worstTo_bounds k
              obtain ⟨z, hz⟩ : ∃ z, z = t.worstTo k := ⟨_, rfl⟩
              rw [← hz] at HST wb1 wb2 ⊢
              clear hn ha hz
              by_cases hka : k = a
              · have HX := Lib.hid (show t.worstTo (k + 1) = z by rw [HST.out, if_neg (fun h => h.1 hka)])
                have q2 : ((k : Int) != (a : Int)) = false := by simp [hka]
                have q2' : ((k : Int) == (a : Int)) = true := by simp [hka]
                clear hka
                go_wp2_with fail
                go_quiet (fail)
                go_wp2_with fail
                go_roundw
                case rel => exact ⟨k + 1, by omega, by go_num, by rw [HX.out], HN2.out.later (below_drewN' _ _)⟩
                case measure => simp [intOf]; omega
              · have q2 : ((k : Int) != (a : Int)) = true := by simp; omega
                have q2' : ((k : Int) == (a : Int)) = false := by simp; omega
                by_cases hz0 : z < 0
                · have HX := Lib.hid (show t.worstTo (k + 1) = (k : Int) by rw [HST.out, if_pos ⟨hka, .inl hz0⟩])
                  have q3 : decide (z < 0) = true := decide_eq_true hz0
                  clear hka
                  go_wp2_with fail
                  go_quiet (fail)
                  go_wp2_with fail
                  go_roundw
                  case rel => exact ⟨k + 1, by omega, by go_num, by rw [HX.out], HN2.out.later (below_drewN' _ _)⟩
                  case measure => simp [intOf]; omega
                · obtain ⟨zn, rfl⟩ : ∃ zn : Nat, z = zn := ⟨z.toNat, by omega⟩
                  have hzn6 : zn < 6 := by omega
                  have q3 : decide ((zn : Int) < 0) = false := decide_eq_false hz0
                  obtain ⟨lk, hlk⟩ : ∃ lk, lk = (t.live k).length := ⟨_, rfl⟩
                  obtain ⟨lz, hlz⟩ : ∃ lz, lz = (t.live zn).length := ⟨_, rfl⟩
                  have HX := Lib.hid (show t.worstTo (k + 1) = if lk < lz then (k : Int) else (zn : Int) by
                    rw [HST.out, hlk, hlz]
                    simp only [Int.toNat_natCast]
                    by_cases h : (t.live k).length < (t.live zn).length
                    · rw [if_pos ⟨hka, .inr h⟩, if_pos h]
                    · rw [if_neg (fun h' => h (h'.2.resolve_left hz0)), if_neg h])
                  have HLK := Lib.hid (fun (v : Value) (W : World) (h : W.ownsRow wr.heap.size 68 2 v (t.live k).length (pagesV (t.live k))) => h)
                  have hS0 : wr.drew.cell? ⟨cb, 0, none⟩ = some (.pointer (some ⟨g, 0, none⟩)) ∧ wr.drew.cell? ⟨g, 28, none⟩ = some (.int .i64 (a : Nat)) ∧ NextIs w wr.drew B base g cb t := ⟨c0, c28, HN2.out.drew⟩
                  have LATER : ∀ (w4 w5 : World), (w4.cell? ⟨cb, 0, none⟩ = some (.pointer (some ⟨g, 0, none⟩)) ∧ w4.cell? ⟨g, 28, none⟩ = some (.int .i64 (a : Nat)) ∧ NextIs w w4 B base g cb t) → Below w4.heap.size w4 w5 →
                      (w5.cell? ⟨cb, 0, none⟩ = some (.pointer (some ⟨g, 0, none⟩)) ∧ w5.cell? ⟨g, 28, none⟩ = some (.int .i64 (a : Nat)) ∧ NextIs w w5 B base g cb t) := by
                    rintro w4 w5 ⟨h1, h2, h3⟩ h5
                    have hg4 : g < w4.heap.size := by have := h3.is.lo; omega
                    exact ⟨(h3.later h5).cell, by rw [h5.cell (p := ⟨g, 28, none⟩) hg4]; exact h2, h3.later h5⟩
                  have HLAT := Lib.hid LATER
                  have H0 := Lib.hid hS0
                  have LIVEK := Lib.hid (fun (W : World) (h : FlashIs W B base g t) => by have h1 := live_walk W B base g t k h hlt (HSM.out k) (HPG.out k); rw [← hlk] at h1; exact h1)
                  have LIVEZ := Lib.hid (fun (W : World) (h : FlashIs W B base g t) => by have h1 := live_walk W B base g t zn h hzn6 (HSM.out zn) (HPG.out zn); rw [← hlz] at h1; exact h1)
                  clear hka hz0 hlk hlz LATER hS0 c0 c28 HLK
                  go_wp2_with fail
                  go_region_held3 (fun w' => w'.cell? ⟨cb, 0, none⟩ = some (.pointer (some ⟨g, 0, none⟩)) ∧ w'.cell? ⟨g, 28, none⟩ = some (.int .i64 (a : Nat)) ∧ NextIs w w' B base g cb t)
                    (first
                      | assumption
                      | exact H0.out
                      | exact HLAT.out _ _ (by assumption) hb5)
                    (first
                      | (go_at_call_of 41 k; refine (LIVEK.out _ (NextIs.is (And.right (And.right (by assumption))))).mono ?_; rintro _ w5 ⟨u, rfl, hu, hb5⟩; obtain ⟨ua, uc, rfl⟩ := own_shape' hu)
                      | (go_at_call_of 41 zn; refine (LIVEZ.out _ (NextIs.is (And.right (And.right (by assumption))))).mono ?_; rintro _ w5 ⟨u, rfl, hu, hb5⟩; obtain ⟨ua, uc, rfl⟩ := own_shape' hu))
                  have HE2 := Lib.hid (show NextIs w _ B base g cb t from And.right (And.right (by assumption)))
                  by_cases hkz : lk < lz
                  · have q4 : decide (lk < lz) = true := decide_eq_true hkz
                    have q4' : decide ((lk : Int) < (lz : Int)) = true := decide_eq_true (by omega)
                    go_wp2_with fail
                    go_roundw
                    case rel => first | exact ⟨k + 1, by omega, by go_num, by rw [HX.out, if_pos hkz], HE2.out⟩ | ((repeat apply Exists.intro); exact ⟨⟨k + 1, by omega, by go_num, by rw [HX.out, if_pos hkz], HE2.out⟩, rfl⟩)
                    case measure => simp [intOf]; omega
                  · have q4 : decide (lk < lz) = false := decide_eq_false hkz
                    have q4' : decide ((lk : Int) < (lz : Int)) = false := decide_eq_false (by omega)
                    go_wp2_with fail
                    go_roundw
                    case rel => first | exact ⟨k + 1, by omega, by go_num, by rw [HX.out, if_neg hkz], HE2.out⟩ | ((repeat apply Exists.intro); exact ⟨⟨k + 1, by omega, by go_num, by rw [HX.out, if_neg hkz], HE2.out⟩, rfl⟩)
                    case measure => simp [intOf]; omega
            · obtain rfl : k = 6 := by omega
              obtain ⟨w6, wne, hw, hl1⟩ := HOK.out.worst_is HF.out (by rw [← HNN.out]; omega)
              rw [← HTT.out] at w6 wne hw hl1
              have HNX := Lib.hid (show s.next = (t.live t.worst).foldl Fl.down (t.erase t.worst) by unfold Fl.next; rw [if_neg (by rw [← HNN.out]; exact hmany), ← HTT.out])
              have HR0 := Lib.hid (show ((t.erase t.worst).row (t.erase t.worst).act).length = 0 by have h := (HOK.out.erased HF.out (by rw [← HNN.out]; omega)).2.1; rw [← HTT.out] at h; rw [show (t.erase t.worst).act = s.best by rw [HTT.out]; rfl]; exact h)
              have HP8 := Lib.hid (show ∀ p ∈ t.live t.worst, p.1 < 8 by have h := (HOK.out.erased HF.out (by rw [← HNN.out]; omega)).2.2.2; rw [← HTT.out] at h; exact fun p hp => (h p hp).1)
              obtain ⟨wo, hwo⟩ : ∃ wo, wo = t.worst := ⟨_, rfl⟩
              rw [← hwo] at w6 wne hw hl1 HNX HR0 HP8
              rw [hw]
              have htm := HM.out wo
              have HTM := Lib.hid (show t.times wo = s.times wo by rw [HTT.out]; rfl)
              clear hn hw hwo wne
              have c0 := HN2.out.cell
              have c0k := Lib.hid c0
              go_wp2_with fail
              refine (live_walk _ B base g t wo HN2.out.is w6 (HSM.out wo) (HPG.out wo)).mono ?_
              rintro _ w5 ⟨u, rfl, hu, hb5⟩
              obtain ⟨ua, uc, rfl⟩ := own_shape' hu
              have HN5 := Lib.hid (HN2.out.later hb5)
              have HU := Lib.hid hu
              have d0 := HN5.out.cell
              obtain ⟨ve, ce, d1⟩ := HN5.out.len w6
              have d2 := HN5.out.is.ers wo (t.times wo) (by unfold Fl.times; rw [List.getElem?_eq_getElem (by rw [HN5.out.is.elen]; exact w6)]; rfl)
              have df1 := HN5.out.is.free wo
              have df2 := HN5.out.is.free (22 + wo)
              have hg5 : g < w5.heap.size := by have := HN5.out.is.lo; omega
              have wo6 : (wo : Int) < 6 := by omega
              have wo0 : (0 : Int) ≤ (wo : Int) := by omega
              clear hu hb5 c0
              have hnil := HN5.out.is.setNil wo w6
              have hne2 : ∀ o, o ≠ wo → (w5.setCell ⟨g, wo, none⟩ (.slice none 0 0)).cell? ⟨g, o, none⟩ = w5.cell? ⟨g, o, none⟩ := fun o ho => set_oth w5 g wo _ ho
              have HN6 := Lib.hid (HN5.out.stored (by have := HCB.out; omega) hnil.1 hnil.2)
              have HNE := Lib.hid hne2
              have HG6 := Lib.hid hnil.2
              obtain ⟨e, he⟩ : ∃ e, e = t.times wo := ⟨_, rfl⟩
              rw [← he] at d2
              have he6 : e ≤ 999999 := by rw [he, HTM.out]; exact htm
              have HEE := Lib.hid he
              have HU6 := Lib.hid (HU.out.kept hnil.2 (.inr (fun x => by have := (HU.out.lt g x).1; have := HN2.out.is.lo; omega)))
              clear hnil hne2 he
              go_wp2_with fail
              obtain ⟨w6', hw6⟩ : ∃ w6', w6' = w5.setCell ⟨g, wo, none⟩ (.slice none 0 0) := ⟨_, rfl⟩
              rw [← hw6] at HN6 HNE HU6 ⊢
              have x0 := HN6.out.cell
              have x2 := (HNE.out (22 + wo) (by omega)).trans d2
              have xf := HN6.out.is.free (22 + wo)
              have hg6 : g < w6'.heap.size := by have := HN6.out.is.lo; omega
              have s1 : IntKind.i64.wrap ((e : Int) + 1) = (e : Int) + 1 := IntWalk.i64_in _ (by omega)
              clear d0 d1 d2 df1 df2 hw6
              go_cut [68] (fun _ wx => NextIs w wx B base g cb (t.erase wo) ∧ ((t.live wo).length ≠ 0 → wx.ownsRow wr.heap.size 68 2 (.slice ua (t.live wo).length uc) (t.live wo).length (pagesV (t.live wo))))
              case first =>
                have h := HN6.out.is.setEr wo (e + 1) w6
                have ec : ((e + 1 : Nat) : Int) = (e : Int) + 1 := by omega
                rw [ec] at h
                have hst : ({ ({ t with blk := t.blk.set wo [] } : Fl) with er := t.er.set wo (e + 1) } : Fl) = t.erase wo := by rw [HEE.out]; rfl
                have h2 := HN6.out.stored (s' := t.erase wo) (by have := HCB.out; omega) (by rw [← hst]; exact h.1) h.2
                have h3 := HU6.out.kept h.2 (.inr (fun x => by have := (HU.out.lt g x).1; have := HN2.out.is.lo; omega))
                have HEND := Lib.hid h2
                have HEND3 := Lib.hid h3
                clear h h2 h3 hst ec
                go_region_law (fail)
                all_goals
                  go_wp2_with fail
                  go_meet
                  first | exact ⟨HEND.out, fun _ => HEND3.out⟩ | exact ⟨HEND.out.drew, fun _ => HEND3.out⟩
              case rest =>
                obtain ⟨hn7, hu7⟩ := hcut
                have HN7 := Lib.hid hn7
                have HU7 := Lib.hid hu7
                obtain ⟨l, hl⟩ : ∃ l, l = t.live wo := ⟨_, rfl⟩
                rw [← hl] at HU7 HNX HP8 hl1 ⊢
                obtain ⟨nl, hnl⟩ : ∃ nl, nl = l.length := ⟨_, rfl⟩
                rw [← hnl] at HU7 hl1 ⊢
                have HNL := Lib.hid hnl
                obtain ⟨t2, ht2⟩ : ∃ t2, t2 = t.erase wo := ⟨_, rfl⟩
                rw [← ht2] at HN7 HNX HR0
                clear hn7 hu7 hl hnl x0 x2 xf ht2
                go_wp2_with fail
                go_loopw [80] (fun ix wr => ∃ k : Nat, k ≤ nl ∧ ix = .int .i64 k ∧ NextIs w wr B base g cb ((l.take k).foldl Fl.down t2) ∧ (k = 0 → wr = wc)) (fun ix _ => nl - (intOf ix).toNat)
                case atStart => exact ⟨0, by omega, rfl, HN7.out, fun _ => rfl⟩
                case round =>
                  obtain ⟨k, hk, rfl, hn8, hw8⟩ := hrel
                  have HN8 := Lib.hid hn8
                  by_cases hlt : k < nl
                  · obtain rfl : k = 0 := by omega
                    have e8 := hw8 rfl
                    subst e8
                    obtain ⟨⟨pg, pv⟩, hp⟩ : ∃ p, l[0]? = some p := ⟨_, List.getElem?_eq_getElem (by have := HNL.out; omega)⟩
                    have hu8 := HU7.out (by omega)
                    obtain ⟨r, cap', hsl, hbr, hrw⟩ := hu8.form (by omega)
                    obtain ⟨rfl, rfl⟩ : ua = some ⟨r, 0, none⟩ ∧ uc = cap' := by simpa using hsl
                    have e0 := hu8.cellAt 0 (by omega)
                    have e1 := hu8.cellAt 1 (by omega)
                    rw [show (0 : Nat) = 0 * 2 from rfl, (pagesV_at hp).1] at e0
                    rw [show (1 : Nat) = 0 * 2 + 1 from rfl, (pagesV_at hp).2] at e1
                    simp only [Nat.zero_mul, Nat.zero_add] at e0 e1
                    have hp8 := HP8.out _ (List.mem_of_getElem? hp)
                    have HTK := Lib.hid (show (l.take 1).foldl Fl.down t2 = t2.down (pg, pv) by
                      rcases l with _ | ⟨q, l⟩
                      · simp at hp
                      · simp at hp; subst hp; rfl)
                    have q1 : decide ((0 : Int) < (nl : Int)) = true := decide_eq_true (by omega)
                    have q1' : decide (0 < nl) = true := decide_eq_true hlt
                    have x0 := HN8.out.cell
                    have hg8 : cb < wr.heap.size := (Array.getElem?_eq_some_iff.1 HN8.out.box).1
                    have HN9 := Lib.hid (HN7.out.later ((Below.refl _ _).alloc (Nat.le_refl _) (.cells #[.int .i64 (pg : Nat), .int .i64 pv] 68)))
                    clear hn8 hw8 hp hu8 hsl hbr
                    go_wp2_with fail
                    refine (down_walk _ B base g t2 (pg, pv) HN9.out.is hp8 (by rw [HR0.out]; omega)).mono ?_
                    rintro _ w9 ⟨rfl, h9, hb9, hk9⟩
                    have HN10 := Lib.hid (HN9.out.called (by have := HCB.out; omega) h9 hb9 hk9)
                    clear h9 hb9 hk9
                    go_wp2_with fail
                    go_roundw
                    case rel => exact ⟨1, by omega, rfl, by rw [HTK.out]; exact HN10.out, fun h => by omega⟩
                    case measure => simp [intOf]; omega
                  · obtain rfl : k = nl := by omega
                    have q1 : decide (k < k) = false := decide_eq_false hlt
                    have HE := Lib.hid (show l.take k = l from List.take_of_length_le (by have := HNL.out; omega))
                    clear hn8 hw8
                    go_wp2_with fail
                    go_end0
                    exact ⟨rfl, by rw [HNX.out, ← HE.out]; exact HN8.out.is, HN8.out.below, HN8.out.kept⟩

end Go.Proofs.YtegibgflhhdddaaDoor
