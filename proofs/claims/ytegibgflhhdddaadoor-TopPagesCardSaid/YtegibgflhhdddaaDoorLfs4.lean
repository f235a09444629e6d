/- The disk's Clean, where it is crowded. -/
import Derived.Test.YtegibgflhhdddaaDoorLfs3
namespace Go.Proofs.YtegibgflhhdddaaDoor.Lf
open Go.RowKit Ftl

theorem lt_of_heapL {w : World} {x : Nat} {o : Obj} (h : w.heap[x]? = some o) : x < w.heap.size := (Array.getElem?_eq_some_iff.1 h).1
theorem wipe_hole {s : Fl} (h : Dok s) (hc : s.crowded) : ¬ ((s.wipe s.worst).row (s.wipe s.worst).act).length < 4 ∧ (s.wipe s.worst).isHole s.worst := by
  obtain ⟨w6, wne, -, -⟩ := h.worst_is
  obtain ⟨-, h2, -, -⟩ := h.wiped w6
  have h44 := h.crowd hc
  refine ⟨?_, w6, by rw [h2, if_pos rfl], fun c hc' => ?_⟩
  · show ¬ ((s.wipe s.worst).row s.act).length < 4
    rw [h2, if_neg wne, h44 _ h.act]
    omega
  · rw [h2, if_neg (by omega)]
    intro e
    have := h44 c (by omega)
    rw [e] at this
    simp at this

set_option maxRecDepth 100000 in
set_option maxHeartbeats 8000000 in
theorem lclean_walk (w : World) (B base g : Nat) (s : Fl) (hs : DiskIs w B base g s) (hok : Dok s) (hc : s.crowded) :
    Calls Tryd.prog 35 #[.pointer (some ⟨g, 0, none⟩)] w fun e w' => (∃ b : Nat, e = .returned (.tuple #[.int .i64 (b : Nat), .nilIface])) ∧ DiskIs w' B base g s.cleaned ∧ Below B w w' ∧ KeptD w w' g base := by
  obtain ⟨w6, wne, hw6, hl1⟩ := hok.worst_is
  have HOK := Lib.hid hok
  have HC := Lib.hid hc
  have H44 := Lib.hid (hok.crowd hc)
  have HS := Lib.hid hs
  have HW6 := Lib.hid hw6
  have HSM := Lib.hid hok.small
  have HPG := Lib.hid hok.page
  have HHOLE := Lib.hid (wipe_hole hok hc)
  have hBw : B ≤ w.heap.size := by have := hs.lo; omega
  obtain ⟨a, ha⟩ : ∃ a, a = s.act := ⟨_, rfl⟩
  have HA := Lib.hid ha
  obtain ⟨wo, hwo⟩ : ∃ wo, wo = s.worst := ⟨_, rfl⟩
  rw [← hwo] at w6 wne hl1 HW6 HHOLE
  rw [← ha] at wne
  have HWO := Lib.hid hwo
  have hact : a < 6 := by rw [ha]; exact hs.act
  clear hs hok hc hw6 ha hwo
  go_enter Tryd.func35, Tryd.ntmps35
  go_wp2_with fail
  go_loopw [4, 9] (fun bx ix wr => ∃ k : Nat, k ≤ 6 ∧ ix = .int .i64 (k : Nat) ∧ bx = .int .i64 (s.worstTo k) ∧ DiskIs wr B base g s ∧ Below w.heap.size w wr) (fun _ ix _ => 6 - (intOf ix).toNat)
  case atStart => exact ⟨0, Nat.zero_le _, rfl, rfl, HS.out, Below.refl _ _⟩
  case round =>
    obtain ⟨k, hk, rfl, rfl, hd, hb⟩ := hrel
    have HD := Lib.hid hd
    have HB := Lib.hid hb
    have hgw : g < wr.heap.size := by have := hd.lo; omega
    have c30 := hd.acts
    rw [← HA.out] at c30
    clear hd hb
    by_cases hlt : k < 6
    · have q1 : decide ((k : Int) < 6) = true := decide_eq_true (by omega)
      have hk0 : (0 : Int) ≤ (k : Int) := by omega
      have hk6 : (k : Int) < 6 := by omega
      have hst : s.worstTo (k + 1) = if k ≠ a ∧ (s.worstTo k < 0 ∨ (s.live k).length < (s.live (s.worstTo k).toNat).length) then (k : Int) else s.worstTo k := by rw [HA.out]; rfl
      by_cases hka : k = a
      · have q2 : ((k : Int) == (a : Int)) = true := beq_iff_eq.2 (by omega)
        rw [if_neg (fun h => h.1 hka)] at hst
        have HST := Lib.hid hst
        obtain ⟨bv, hbv⟩ : ∃ b, b = s.worstTo k := ⟨_, rfl⟩
        have HBV := Lib.hid hbv
        rw [← hbv]
        clear hst hka hbv
        go_wp2_with fail
        go_roundw
        case rel => exact ⟨k + 1, by omega, by go_num, by rw [HST.out, ← HBV.out], HD.out, HB.out⟩
        case measure => simp [intOf]; omega
      · have q2 : ((k : Int) == (a : Int)) = false := beq_eq_false_iff_ne.2 (by omega)
        obtain ⟨vb, cb, d0⟩ := HD.out.len hlt
        rw [H44.out k hlt] at d0
        obtain ⟨z1, z2, -⟩ := Fl.worstTo_bounds s k
        by_cases hneg : s.worstTo k = -1
        · rw [if_pos ⟨hka, .inl (by omega)⟩] at hst
          have HST := Lib.hid hst
          rw [hneg]
          clear hst hka hneg z1 z2
          go_wp2_with fail
          go_roundw
          case rel => exact ⟨k + 1, by omega, by go_num, by rw [HST.out], HD.out, HB.out⟩
          case measure => simp [intOf]; omega
        · obtain ⟨m, hm⟩ : ∃ m : Nat, s.worstTo k = (m : Int) := ⟨(s.worstTo k).toNat, by omega⟩
          have hm6 : m < 6 := by omega
          have q3 : decide ((m : Int) < 0) = false := decide_eq_false (by omega)
          rw [hm, Int.toNat_natCast] at hst
          obtain ⟨lk, hlk⟩ : ∃ n, n = (s.live k).length := ⟨_, rfl⟩
          obtain ⟨lm, hlm⟩ : ∃ n, n = (s.live m).length := ⟨_, rfl⟩
          rw [← hlk, ← hlm] at hst
          have HLK := Lib.hid hlk
          have HLM := Lib.hid hlm
          have HST := Lib.hid hst
          have hlk4 : lk ≤ 4 := by rw [hlk]; exact Nat.le_trans (s.liveTo_length k _) (HSM.out k)
          have hlm4 : lm ≤ 4 := by rw [hlm]; exact Nat.le_trans (s.liveTo_length m _) (HSM.out m)
          rw [hm]
          clear hst hneg hm hlk hlm z1 z2
          go_wp2_with fail
          refine (llive_walk wr B base g s k HD.out hlt (HSM.out k) (HPG.out k)).mono ?_
          rintro _ w5 ⟨u, rfl, hu, hb5⟩
          obtain ⟨ua, uc, rfl⟩ := own_shape' hu
          rw [← HLK.out]
          have HD5 := Lib.hid (HD.out.below hb5)
          have HB5 := Lib.hid (HB.out.trans (hb5.mono HB.out.size))
          clear hu hb5 c30 d0
          go_wp2_with fail
          refine (llive_walk w5 B base g s m HD5.out hm6 (HSM.out m) (HPG.out m)).mono ?_
          rintro _ w6 ⟨u, rfl, hu, hb6⟩
          obtain ⟨va, vc, rfl⟩ := own_shape' hu
          rw [← HLM.out]
          have HD6 := Lib.hid (HD5.out.below hb6)
          have HB6 := Lib.hid (HB5.out.trans (hb6.mono HB5.out.size))
          clear hu hb6
          by_cases hless : lk < lm
          · have q5 : decide ((lk : Int) < (lm : Int)) = true := decide_eq_true (by omega)
            have q6 : decide (lk < lm) = true := decide_eq_true hless
            have HFIN : Hid (s.worstTo (k + 1) = (k : Int)) := Lib.hid (by rw [HST.out, if_pos ⟨hka, .inr hless⟩])
            clear hless hka
            go_wp2_with fail
            go_roundw
            case rel => exact ⟨k + 1, by omega, by go_num, by rw [HFIN.out], HD6.out, HB6.out⟩
            case measure => simp [intOf]; omega
          · have q5 : decide ((lk : Int) < (lm : Int)) = false := decide_eq_false (by omega)
            have q6 : decide (lk < lm) = false := decide_eq_false hless
            have HFIN : Hid (s.worstTo (k + 1) = (m : Int)) := Lib.hid (by rw [HST.out, if_neg (fun h => by rcases h.2 with h | h <;> omega)])
            clear hless hka
            go_wp2_with fail
            go_roundw
            case rel => exact ⟨k + 1, by omega, by go_num, by rw [HFIN.out], HD6.out, HB6.out⟩
            case measure => simp [intOf]; omega
    · obtain rfl : k = 6 := by omega
      have q1 : decide (((6 : Nat) : Int) < 6) = false := rfl
      rw [HW6.out]
      have q2 : decide ((wo : Int) < 0) = false := decide_eq_false (by omega)
      clear c30
      go_wp2_with fail
      refine (llive_walk wr B base g s wo HD.out w6 (HSM.out wo) (HPG.out wo)).mono ?_
      rintro _ w5 ⟨u, rfl, hu, hb5⟩
      obtain ⟨ua, uc, rfl⟩ := own_shape' hu
      obtain ⟨nl, hnl⟩ : ∃ n, n = (s.live wo).length := ⟨_, rfl⟩
      rw [← hnl] at hl1 hu ⊢
      have HNL := Lib.hid hnl
      have HU5 := Lib.hid hu
      have HD5 := Lib.hid (HD.out.below hb5)
      have HB5 := Lib.hid (HB.out.trans (hb5.mono HB.out.size))
      have hgw5 : g < w5.heap.size := by have := HD5.out.lo; omega
      have hbw5 : base ≤ wr.heap.size := HD.out.lo.2.2
      obtain ⟨vb, cb, d0⟩ := HD5.out.len w6
      have df := HD5.out.free wo
      have hwo0 : (0 : Int) ≤ (wo : Int) := by omega
      have hwo6 : (wo : Int) < 6 := by omega
      have q3 : ((nl : Int) == 4) = false := beq_eq_false_iff_ne.2 (by omega)
      have hnil := HD5.out.setNil wo w6
      have hu6 := HU5.out.kept hnil.2 (.inr (fun x => by have := (HU5.out.lt g x).1; have := HD.out.lo; omega))
      have HG5 := Lib.hid hnil.2
      have HBB : Hid (Below B w (w5.setCell ⟨g, wo, none⟩ (.slice none 0 0))) := Lib.hid ((HB5.out.mono hBw).grown hnil.2 (Nat.le_trans hBw HB5.out.size) (fun j hj => by cases hj; exact HD5.out.lo.1))
      have HKK : Hid (KeptD w (w5.setCell ⟨g, wo, none⟩ (.slice none 0 0)) g base) := Lib.hid ((KeptD.of_below g HB5.out).trans (KeptD.grown_g hnil.2))
      have hd6 := hnil.1
      clear hnl hu hb5 hnil
      go_upto_region 15 with fail
      obtain ⟨w7, hw7⟩ : ∃ y, y = w5.setCell ⟨g, wo, none⟩ (.slice none 0 0) := ⟨_, rfl⟩
      rw [← hw7] at hu6 HBB HKK hd6 ⊢
      obtain ⟨t, ht⟩ : ∃ t : Fl, t = s.wipe wo := ⟨_, rfl⟩
      have hd7 : DiskIs w7 B base g t := by rw [ht]; exact hd6
      have HU7 := Lib.hid hu6
      have HD7 := Lib.hid hd7
      have HT := Lib.hid ht
      clear hw7 hu6 hd6 hd7 ht d0 df
      have HHT : Hid (¬ (t.row t.act).length < 4 ∧ t.isHole wo) := Lib.hid (by rw [HT.out]; exact HHOLE.out)
      have HT4 : Hid (∀ b, (t.row b).length ≤ 4) := Lib.hid (by
        intro b
        rw [HT.out]
        have h1 := (HOK.out.wiped w6).1.small b
        exact h1)
      go_wp2_with fail
      go_loopw [60] (fun ix wr => ∃ k : Nat, k ≤ nl ∧ ix = .int .i64 (k : Nat) ∧ Below B w wr ∧ KeptD w wr g base ∧ (k = 0 → wr = w7) ∧ (0 < k → DiskIs wr B base g s.cleaned)) (fun ix _ => nl - (intOf ix).toNat)
      case atStart => exact ⟨0, Nat.zero_le _, rfl, HBB.out, HKK.out, fun _ => rfl, fun h => absurd h (by omega)⟩
      case round =>
        obtain ⟨k, hk, rfl, hbk, hkk, hz, hcl⟩ := hrel
        have HBK := Lib.hid hbk
        have HKP := Lib.hid hkk
        have HCL := Lib.hid hcl
        by_cases hlt2 : k < nl
        · obtain rfl : k = 0 := by omega
          obtain rfl := (hz rfl).symm
          obtain ⟨l, hl⟩ : ∃ l, l = s.live wo := ⟨_, rfl⟩
          have hlen : l.length = nl := by rw [hl, HNL.out]
          obtain ⟨⟨pg, pv⟩, hp⟩ : ∃ p, l[0]? = some p := ⟨_, List.getElem?_eq_getElem (by omega)⟩
          have hu8 := HU7.out
          rw [← hl] at hu8
          obtain ⟨r, cap', hsl, hbr, hrw⟩ := hu8.form (by omega)
          obtain ⟨rfl, rfl⟩ : ua = some ⟨r, 0, none⟩ ∧ uc = cap' := by simpa using hsl
          have e0 := hu8.cellAt 0 (by omega)
          have e1 := hu8.cellAt 1 (by omega)
          rw [show (0 : Nat) = 0 * 2 from rfl, (pagesV_at hp).1] at e0
          rw [show (1 : Nat) = 0 * 2 + 1 from rfl, (pagesV_at hp).2] at e1
          simp only [Nat.zero_mul, Nat.zero_add] at e0 e1
          have hp8 : pg < 8 := ((HOK.out.wiped w6).2.2.2 _ (by rw [← hl]; exact List.mem_of_getElem? hp)).1
          have hclean : s.cleaned = ({ t with act := wo } : Fl).down (pg, pv) := by
            unfold Fl.cleaned
            rw [← HWO.out, ← hl]
            rcases l with _ | ⟨q, l⟩
            · simp at hp
            · simp at hp
              subst hp
              rw [HT.out]
          have HCLEAN := Lib.hid hclean
          have q4 : decide ((0 : Int) < (nl : Int)) = true := decide_eq_true (by omega)
          have q4' : decide (0 < nl) = true := decide_eq_true hlt2
          have HD8 := Lib.hid (HD7.out.below ((Below.refl w7.heap.size w7).alloc (Nat.le_refl _) (.cells #[.int .i64 (pg : Nat), .int .i64 pv] 89)))
          have HX8 := Lib.hid (show (w7.alloc (.cells #[.int .i64 (pg : Nat), .int .i64 pv] 89)).heap[w7.heap.size]? = some (.cells #[.int .i64 (pg : Nat), .int .i64 pv] 89 (0, 0)) from heap_alloc_new w7 _)
          have HBA := Lib.hid ((Below.refl w7.heap.size w7).alloc (Nat.le_refl _) (.cells #[.int .i64 (pg : Nat), .int .i64 pv] 89))
          clear hbk hkk hz hcl hl hp hu8 hsl hbr hlen hclean
          go_wp2_with fail
          refine (lroom_walk _ B base g t HD8.out HT4.out).mono ?_
          rintro _ w9 ⟨⟨rfl, hnc, hd9⟩ | ⟨-, hcr, -⟩, hb9, hk9, hg9⟩
          rotate_left
          · exact absurd HHT.out.2.2.1 (hcr.2 wo w6)
          rw [place_hole HHT.out.1 HHT.out.2] at hd9
          have hx9 := (hg9.block w7.heap.size (lt_of_heapL HX8.out) (by have := HD7.out.lo; simp; omega)).trans HX8.out
          have x0 : w9.cell? ⟨w7.heap.size, 0, none⟩ = some (.int .i64 (pg : Nat)) := by unfold World.cell?; simp only; rw [hx9]; rfl
          have x1 : w9.cell? ⟨w7.heap.size, 1, none⟩ = some (.int .i64 pv) := by unfold World.cell?; simp only; rw [hx9]; rfl
          have HD9 := Lib.hid hd9
          have HB9 := Lib.hid ((HBK.out.trans (HBA.out.mono (by have := HD7.out.lo; omega))).trans hb9)
          have HK9 := Lib.hid ((HKP.out.trans (KeptD.of_below g HBA.out)).trans hk9)
          have hrow0 : (({ t with act := wo } : Fl).row wo).length ≤ 100 := by
            show (t.row wo).length ≤ 100
            rw [HHT.out.2.2.1]
            exact Nat.zero_le _
          have HR0 := Lib.hid hrow0
          clear hnc hd9 hb9 hk9 hg9 hx9 hrow0
          go_wp2_with fail
          refine (ldown_walk w9 B base g { t with act := wo } (pg, pv) HD9.out hp8 HR0.out).mono ?_
          rintro _ w10 ⟨rfl, hd10, hb10, hk10⟩
          rw [← HCLEAN.out] at hd10
          have HD10 := Lib.hid hd10
          have HB10 := Lib.hid (HB9.out.trans hb10)
          have HK10 := Lib.hid (HK9.out.trans hk10)
          clear hd10 hb10 hk10
          go_wp2_with fail
          go_roundw
          case rel => exact ⟨1, by omega, rfl, HB10.out, HK10.out, fun h => by omega, fun _ => HD10.out⟩
          case measure => simp [intOf]; omega
        · obtain rfl : k = nl := by omega
          have q4 : decide (k < k) = false := decide_eq_false (Nat.lt_irrefl _)
          have hfin : DiskIs wr B base g s.cleaned := by
            by_cases h0 : k = 0
            · have h1 := hz h0
              have h2 : s.live wo = [] := List.length_eq_zero_iff.1 (by rw [← HNL.out]; exact h0)
              have h3 : s.cleaned = t := by
                unfold Fl.cleaned
                rw [← HWO.out, h2, HT.out]
              rw [h3, h1]
              exact HD7.out
            · exact hcl (by omega)
          have HFIN := Lib.hid hfin
          clear hbk hkk hz hcl hfin
          go_wp2_with fail
          go_ret2
          exact ⟨⟨wo, rfl⟩, HFIN.out, HBK.out, HKP.out⟩

end Go.Proofs.YtegibgflhhdddaaDoor.Lf
