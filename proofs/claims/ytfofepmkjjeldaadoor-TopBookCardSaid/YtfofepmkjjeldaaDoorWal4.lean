/- The log ahead: Values. -/
import Derived.Test.YtfofepmkjjeldaaDoorWal3
namespace Go.Proofs.YtfofepmkjjeldaaDoor
open Go.RowKit

theorem ints_setW (l : List Nat) (i x : Nat) : (ints (natsB l)).set i (.int .i64 (x : Nat)) = ints (natsB (l.set i x)) := by simp [ints, natsB, List.map_set]
theorem rec_cells {w : World} {base : Nat} {r n cap : Nat} {L : List Rec} (h : w.ownsRow base 86 4 (.slice (some ⟨r, 0, none⟩) n cap) n (recsV L)) {i : Nat} {q : Rec} (hi : i < n) (hq : L[i]? = some q) :
    w.cell? ⟨r, i * 4, none⟩ = some (.int .i64 (q.turn : Nat)) ∧ w.cell? ⟨r, i * 4 + 1, none⟩ = some (.int .i64 (q.blk : Nat)) ∧ w.cell? ⟨r, i * 4 + 2, none⟩ = some (.int .i64 (q.val : Nat)) ∧ w.cell? ⟨r, i * 4 + 3, none⟩ = some (.bool q.fin) := by
  obtain ⟨h1, h2, h3, h4⟩ := recsV_at L i q hq
  exact ⟨(h.cellAt (i * 4) (by omega)).trans h1, (h.cellAt (i * 4 + 1) (by omega)).trans h2, (h.cellAt (i * 4 + 2) (by omega)).trans h3, (h.cellAt (i * 4 + 3) (by omega)).trans h4⟩

set_option maxRecDepth 100000 in
set_option maxHeartbeats 8000000 in
theorem wvalues_walk (w : World) (bm gw : Nat) (L : List Rec) (E : List (Nat × Nat)) (h : DiskAt w bm gw L E) (h8 : ∀ r ∈ L, r.blk < 8) (hL : L.length ≤ 60) :
    Calls Tryd.prog 23 #[.pointer (some ⟨gw, 0, none⟩)] w fun e w' => (∃ v, e = .returned v ∧ HasInts w' v ((vals L).map fun (n : Nat) => (n : Int))) ∧ Below w.heap.size w w' := by
  obtain ⟨v, hv, hown⟩ := h.cells
  obtain ⟨n, hn⟩ : ∃ n, n = L.length := ⟨_, rfl⟩
  obtain ⟨va, dcap, rfl⟩ : ∃ va cap, v = .slice va n cap := by
    rcases hown.2 with ⟨rfl, h⟩ | ⟨g', cap', cur, rfl, -⟩
    · exact ⟨none, 0, by rw [hn, h]⟩
    · exact ⟨_, _, by rw [hn]⟩
  rw [← hn] at hown hL
  have HOWN := Lib.hid hown
  have HN := Lib.hid hn
  have H8 := Lib.hid h8
  have hglt := h.glt
  have hz : ∀ j, j < 8 → w.cell? ⟨gw, j, none⟩ = some (.int .i64 0) := fun j hj => by
    rw [(disk_cell hv j).1]
    rcases j with _ | _ | _ | _ | _ | _ | _ | _ | j <;> first | rfl | omega
  have hc8 := (disk_cell hv 8).1
  rw [show (diskCells (.slice va n dcap) bm)[8]? = some (.slice va n dcap) from rfl] at hc8
  have HC8 := Lib.hid hc8
  have HZ := Lib.hid hz
  clear h hv hn hown h8 hz hc8
  go_enter Tryd.func23, Tryd.ntmps23
  go_wp2_with fail
  refine (Tryd.slices_Clone_int gw 0 8 8 (List.replicate 8 0) w (by simp) (by omega) (fun j hj => ?_)).mono ?_
  · rw [Nat.zero_add, HZ.out j hj]
    rcases j with _ | _ | _ | _ | _ | _ | _ | _ | j <;> first | rfl | omega
  rintro _ w1 ⟨ov, rfl, hown1, -, hb1⟩
  rw [List.take_of_length_le (by simp)] at hown1
  obtain ⟨y, cap, rfl, hy1⟩ := own_some hown1 (by decide)
  have HO1 : Hid (w1.ownsRow w.heap.size 3 1 (.slice (some ⟨y, 0, none⟩) 8 cap) 8 (ints (natsB (valsTo L 0)))) := Lib.hid hy1
  have HB1 := Lib.hid hb1
  have hc8 := (hb1.cell (p := ⟨gw, 8, none⟩) hglt).trans HC8.out
  clear hown1 hy1 hb1
  go_wp2_with fail
  clear hc8
  go_loopw [18] (fun ix wr => ∃ i : Nat, i ≤ n ∧ ix = .int .i64 i ∧ wr.ownsRow w.heap.size 3 1 (.slice (some ⟨y, 0, none⟩) 8 cap) 8 (ints (natsB (valsTo L i))) ∧ Below w.heap.size w wr) (fun ix _ => n - (intOf ix).toNat)
  case atStart => exact ⟨0, Nat.zero_le _, rfl, HO1.out, HB1.out⟩
  case round =>
    obtain ⟨i, hi, rfl, ho, hb⟩ := hrel
    have HO := Lib.hid ho
    have HB := Lib.hid hb
    clear ho hb
    by_cases hlt : i < n
    · have q1 : decide (i < n) = true := decide_eq_true hlt
      obtain ⟨q, hq⟩ : ∃ q, L[i]? = some q := ⟨_, List.getElem?_eq_getElem (by have := HN.out; omega)⟩
      have hownr := ownsRow_later HOWN.out (HB.out)
      obtain ⟨r, rcap, er, -, -⟩ := hownr.form (by omega)
      cases er
      obtain ⟨c0, c1, c2, c3⟩ := rec_cells hownr hlt hq
      have HQ := Lib.hid hq
      obtain ⟨qt, qb, qv, qf⟩ := q
      simp only at c0 c1 c2 c3
      clear hownr hq
      have hnew := heap_alloc_new wr (.cells #[.int .i64 (qt : Nat), .int .i64 (qb : Nat), .int .i64 (qv : Nat), .bool qf] 86)
      have hal := (Below.refl wr.heap.size wr).alloc (Nat.le_refl _) (.cells #[.int .i64 (qt : Nat), .int .i64 (qb : Nat), .int .i64 (qv : Nat), .bool qf] 86)
      have HAL := Lib.hid hal
      have HNEW := Lib.hid hnew
      have hc8 := ((HB.out.trans (hal.mono HB.out.size)).cell (p := ⟨gw, 8, none⟩) hglt).trans HC8.out
      clear hal hnew
      cases qf with
      | false =>
        have HFIN : Hid (valsTo L (i + 1) = valsTo L i) := Lib.hid (by rw [valsTo_succ, HQ.out]; rfl)
        clear hc8
        go_wp2_with fail
        go_roundw
        case rel => exact ⟨i + 1, by omega, by go_num, by rw [HFIN.out]; exact ownsRow_later HO.out HAL.out, HB.out.trans (HAL.out.mono HB.out.size)⟩
        case measure => simp [intOf]; omega
      | true =>
        have HFIN : Hid (valsTo L (i + 1) = putsTo (L.take i) qt (valsTo L i)) := Lib.hid (by rw [valsTo_succ, HQ.out]; rfl)
        have s1 : (0 : Int) ≤ (i : Int) := by omega
        have s2 : (i : Int) ≤ (dcap : Int) := by
          have h1 := HOWN.out
          rcases h1.2 with ⟨e, -⟩ | ⟨g', cap', cur, e, -, -, hcc, -⟩
          · cases e
          · cases e
            omega
        have HX : Hid ((wr.alloc (.cells #[.int .i64 (qt : Nat), .int .i64 (qb : Nat), .int .i64 (qv : Nat), .bool true] 86)).cell? ⟨wr.heap.size, 0, none⟩ = some (.int .i64 (qt : Nat))) := Lib.hid (by
          unfold World.cell?
          simp only
          rw [HNEW.out]
          rfl)
        have hyw : y < wr.heap.size := (HO.out.lt y rfl).2
        obtain ⟨z, hz⟩ : ∃ z, z = wr.heap.size := ⟨_, rfl⟩
        have hzs : z < (wr.alloc (.cells #[.int .i64 (qt : Nat), .int .i64 (qb : Nat), .int .i64 (qv : Nat), .bool true] 86)).heap.size := by rw [hz]; simp
        have HO2 := Lib.hid (ownsRow_later HO.out HAL.out)
        have HB2 := Lib.hid (HB.out.trans (HAL.out.mono HB.out.size))
        rw [← hz] at HX hyw
        have HZE := Lib.hid hz
        clear hz
        go_wp2_with fail
        rw [← HZE.out]
        clear c0 c1 c2 c3
        obtain ⟨X, hX⟩ : ∃ X, X = wr.alloc (.cells #[.int .i64 (qt : Nat), .int .i64 (qb : Nat), .int .i64 (qv : Nat), .bool true] 86) := ⟨_, rfl⟩
        rw [← hX] at HX HO2 HB2 hzs ⊢
        clear hX hc8 HZE HNEW HAL HO HB
        go_loopw [33] (fun jx wx => ∃ j : Nat, j ≤ i ∧ jx = .int .i64 j ∧ wx.ownsRow w.heap.size 3 1 (.slice (some ⟨y, 0, none⟩) 8 cap) 8 (ints (natsB (putsTo (L.take j) qt (valsTo L i)))) ∧ Below w.heap.size w wx ∧ wx.cell? ⟨z, 0, none⟩ = some (.int .i64 (qt : Nat)) ∧ z < wx.heap.size) (fun jx _ => i - (intOf jx).toNat)
        case atStart => exact ⟨0, Nat.zero_le _, rfl, HO2.out, HB2.out, HX.out, hzs⟩
        case round =>
          obtain ⟨j, hj, rfl, ho, hb, hzc, hzl⟩ := hrel
          have HOJ := Lib.hid ho
          have HBJ := Lib.hid hb
          have HZC := Lib.hid hzc
          have HZL := Lib.hid hzl
          clear ho hb hzc hzl hzs
          by_cases hlj : j < i
          · have q2 : decide (j < i) = true := decide_eq_true hlj
            obtain ⟨p, hp⟩ : ∃ p, L[j]? = some p := ⟨_, List.getElem?_eq_getElem (by have := HN.out; omega)⟩
            have hownr := ownsRow_later HOWN.out HBJ.out
            obtain ⟨d0, d1, d2, d3⟩ := rec_cells hownr (by omega) hp
            have hpb := H8.out p (List.mem_of_getElem? hp)
            have HSN := Lib.hid (putsTo_snoc hp qt (valsTo L i))
            obtain ⟨pt, pb, pv, pf⟩ := p
            simp only at d0 d1 d2 d3 hpb
            clear hownr hp
            have hal2 := (Below.refl wr.heap.size wr).alloc (Nat.le_refl _) (.cells #[.int .i64 (pt : Nat), .int .i64 (pb : Nat), .int .i64 (pv : Nat), .bool pf] 86)
            have hz2 := (hal2.cell (p := ⟨z, 0, none⟩) HZL.out).trans HZC.out
            have HAL2 := Lib.hid hal2
            have hzl2 : z < (wr.alloc (.cells #[.int .i64 (pt : Nat), .int .i64 (pb : Nat), .int .i64 (pv : Nat), .bool pf] 86)).heap.size := by have := HZL.out; simp; omega
            have HZ2 := Lib.hid hz2
            have HZL2 := Lib.hid hzl2
            clear hal2 hzl2
            cases pf with
            | true =>
              have HFJ : Hid (putsTo (L.take (j + 1)) qt (valsTo L i) = putsTo (L.take j) qt (valsTo L i)) := Lib.hid (by rw [HSN.out]; exact if_neg (fun e => by cases e.1))
              go_wp2_with fail
              go_roundw
              case rel => exact ⟨j + 1, by omega, by go_num, by rw [HFJ.out]; exact ownsRow_later HOJ.out HAL2.out, HBJ.out.trans (HAL2.out.mono HBJ.out.size), HZ2.out, HZL2.out⟩
              case measure => simp [intOf]; omega
            | false =>
              by_cases hpq : pt = qt
              · have HFJ : Hid (putsTo (L.take (j + 1)) qt (valsTo L i) = (putsTo (L.take j) qt (valsTo L i)).set pb pv) := Lib.hid (by rw [HSN.out]; exact if_pos ⟨rfl, hpq⟩)
                have q3 : ((pt : Int) == (qt : Int)) = true := beq_iff_eq.2 (by omega)
                have hown2 := ownsRow_later HOJ.out HAL2.out
                obtain ⟨u, hcu⟩ := own_hasCell hown2 pb (by simp [ints, natsB, putsTo_len, valsTo_len]; omega)
                have hfu := hown2.frozenAt pb
                have HST := Lib.hid (hown2.stored pb (.int .i64 (pv : Nat)))
                have hyb : w.heap.size ≤ y := (hown2.lt y rfl).1
                have s3 : (0 : Int) ≤ (pb : Int) := by omega
                have s4 : (pb : Int) < 8 := by omega
                have HZ3 : Hid (((wr.alloc (.cells #[.int .i64 (pt : Nat), .int .i64 (pb : Nat), .int .i64 (pv : Nat), .bool false] 86)).setCell ⟨y, pb, none⟩ (.int .i64 (pv : Nat))).cell? ⟨z, 0, none⟩ = some (.int .i64 (qt : Nat))) := Lib.hid ((World.cell?_setCell_other _ _ _ _ (by first | (simp; done) | (simp; omega))).trans HZ2.out)
                have HPQ := Lib.hid hpq
                clear hpq hown2
                go_wp2_with fail
                go_roundw
                case rel =>
                  refine ⟨j + 1, by omega, by go_num, ?_, (HBJ.out.trans (HAL2.out.mono HBJ.out.size)).setCell (p := ⟨y, pb, none⟩) hyb _, HZ3.out, by simpa using HZL2.out⟩
                  have h1 := HST.out.1
                  rw [ints_setW] at h1
                  rw [HFJ.out]
                  exact h1
                case measure => simp [intOf]; omega
              · have HFJ : Hid (putsTo (L.take (j + 1)) qt (valsTo L i) = putsTo (L.take j) qt (valsTo L i)) := Lib.hid (by rw [HSN.out]; exact if_neg (fun e => hpq e.2))
                have q3 : ((pt : Int) == (qt : Int)) = false := beq_eq_false_iff_ne.2 (by omega)
                go_wp2_with fail
                go_roundw
                case rel => exact ⟨j + 1, by omega, by go_num, by rw [HFJ.out]; exact ownsRow_later HOJ.out HAL2.out, HBJ.out.trans (HAL2.out.mono HBJ.out.size), HZ2.out, HZL2.out⟩
                case measure => simp [intOf]; omega
          · obtain rfl : j = i := by omega
            have q2 : decide (j < j) = false := decide_eq_false hlj
            go_wp2_with fail
            go_roundw
            case rel => exact ⟨j + 1, by omega, by go_num, by rw [HFIN.out]; exact HOJ.out, HBJ.out⟩
            case measure => simp [intOf]; omega
    · obtain rfl : i = n := by omega
      have q1 : decide (i < i) = false := decide_eq_false hlt
      have HF : Hid (HasInts wr (.slice (some ⟨y, 0, none⟩) 8 cap) ((vals L).map fun (n : Nat) => (n : Int))) := Lib.hid (by
        have h1 := (HasInts.of_own HO.out).2
        unfold vals
        rw [← HN.out]
        exact h1)
      go_wp2_with fail
      go_ret
      exact ⟨⟨_, rfl, HF.out⟩, HB.out⟩

end Go.Proofs.YtfofepmkjjeldaaDoor
