/- The walk of TopPages. -/
import Derived.Test.YtegibgflhhdddaaDoorLfs4
import Derived.StillTailTactics
import Derived.Test.YtegibgflhhdddaaDoorFtl7h
import Derived.Test.YtegibgflhhdddaaDoorTold
import Derived.Test.YtegibgflhhdddaaDoorReadRows
namespace Go.Proofs.YtegibgflhhdddaaDoor.Lf
open Go.RowKit Ftl

theorem own_same {w w' : World} {base : Nat} {e : TypeId} {size : Nat} {v : Value} {n : Nat} {xs : List Value} (h : w.ownsRow base e size v n xs) (hb : ∀ r cur, v.ownBlock = some r → base ≤ r → w.heap[r]? = some (.cells cur e (0, 0)) → w'.heap[r]? = some (.cells cur e (0, 0))) : w'.ownsRow base e size v n xs := by
  obtain ⟨h1, h2⟩ := h
  refine ⟨h1, ?_⟩
  rcases h2 with h2 | ⟨r, cap, cur, rfl, hr, hh, hc⟩
  · exact .inl h2
  · exact .inr ⟨r, cap, cur, rfl, hr, hb r cur rfl hr hh, hc⟩

theorem flash_kept {w w' : World} {ga gb : Nat} {s : Fl} (h : FlashIs w gb (gb + 1) gb s) (hk : KeptD w w' ga (gb + 1)) (hlt : ga < gb) : FlashIs w' gb (gb + 1) gb s := by
  have hbk : w'.heap[gb]? = w.heap[gb]? := by
    have h28 := h.acts
    unfold World.cell? at h28
    simp only at h28
    cases hh : w.heap[gb]? with
    | none => rw [hh] at h28; cases h28
    | some o =>
      cases o with
      | cells cur t fr => exact hk.2 gb cur t fr hh (by omega) (.inr (Nat.lt_succ_self gb))
      | _ => rw [hh] at h28; simp at h28
  have hc : ∀ o, w'.cell? ⟨gb, o, none⟩ = w.cell? ⟨gb, o, none⟩ := fun o => World.cell?_of_block (a := ⟨gb, o, none⟩) hbk
  obtain ⟨V, hV, hne⟩ := h.rows
  refine ⟨h.blen, h.llen, h.elen, h.act, ⟨h.lo.1, h.lo.2.1, Nat.le_trans h.lo.2.2 hk.1⟩, ⟨V, fun b hb => ⟨by rw [hc]; exact (hV b hb).1, own_same (hV b hb).2 (fun r cur _ hr hh => hk.2 r _ _ _ hh (by omega) (.inl (by decide)))⟩, hne⟩, fun p a i hp => by rw [hc, hc]; exact h.locs p a i hp, fun b n hn => by rw [hc]; exact h.ers b n hn, by rw [hc]; exact h.acts, fun o => ?_⟩
  have := h.free o
  unfold World.frozen? at this ⊢
  simp only at this ⊢
  rw [hbk]
  exact this

theorem disk_kept {w w' : World} {ga gb : Nat} {d : Fl} (h : DiskIs w ga (gb + 1) ga d) (hb : Below gb w w') (hk : KeptF w w' gb) (hlt : ga < gb) : DiskIs w' ga (gb + 1) ga d := by
  have hbk : w'.heap[ga]? = w.heap[ga]? := hb.block ga hlt
  have hc : ∀ o, w'.cell? ⟨ga, o, none⟩ = w.cell? ⟨ga, o, none⟩ := fun o => World.cell?_of_block (a := ⟨ga, o, none⟩) hbk
  obtain ⟨V, hV, hne⟩ := h.rows
  refine ⟨h.blen, h.llen, h.act, ⟨h.lo.1, h.lo.2.1, Nat.le_trans h.lo.2.2 hk.1⟩, ⟨V, fun b hb => ⟨by rw [hc]; exact (hV b hb).1, own_same (hV b hb).2 (fun r cur _ hr hh => hk.2 r _ _ _ hh (by omega) (by decide))⟩, hne⟩, fun p a i hp => by rw [hc, hc, hc]; exact h.locs p a i hp, by rw [hc]; exact h.acts, fun o => ?_⟩
  have := h.free o
  unfold World.frozen? at this ⊢
  simp only at this ⊢
  rw [hbk]
  exact this

/-- the disk and the flash in a world -/
structure PT (W wr : World) (ga gb : Nat) (d s : Fl) : Prop where
  disk : DiskIs wr ga (gb + 1) ga d
  flash : FlashIs wr gb (gb + 1) gb s
  lo : W.heap.size ≤ ga ∧ ga < gb
  below : Below W.heap.size W wr
theorem PT.later {W w w' : World} {ga gb : Nat} {d s : Fl} (h : PT W w ga gb d s) (hb : Below w.heap.size w w') : PT W w' ga gb d s :=
  ⟨h.disk.below hb, h.flash.below hb, h.lo, h.below.trans (hb.mono h.below.size)⟩
theorem PT.onDisk {W w w' : World} {ga gb : Nat} {d d' s : Fl} (h : PT W w ga gb d s) (hd : DiskIs w' ga (gb + 1) ga d') (hb : Below ga w w') (hk : KeptD w w' ga (gb + 1)) : PT W w' ga gb d' s :=
  ⟨hd, flash_kept h.flash hk h.lo.2, h.lo, h.below.trans (hb.mono h.lo.1)⟩
theorem PT.onFlash {W w w' : World} {ga gb : Nat} {d s s' : Fl} (h : PT W w ga gb d s) (hs : FlashIs w' gb (gb + 1) gb s') (hb : Below gb w w') (hk : KeptF w w' gb) : PT W w' ga gb d s' :=
  ⟨disk_kept h.disk hb hk h.lo.2, hs, h.lo, h.below.trans (hb.mono (by have := h.lo; omega))⟩

/-- the two in plain words -/
structure PQ (d s : Fl) (asked : Nat) : Prop where
  dok : Dok d
  ok : Ok s
  hi : s.tot + 3 * s.er.sum ≤ asked
  same : ∀ p, p < 8 → d.val p = s.val p
theorem sum_memL : ∀ (l : List Nat) (i : Nat), l[i]?.getD 0 ≤ l.sum := by
  intro l
  induction l with
  | nil => intro i; simp
  | cons a l ih =>
    intro i
    rcases i with _ | i
    · simp
    · have := ih i
      simp only [List.getElem?_cons_succ, List.sum_cons]
      omega
theorem PQ.times {d s : Fl} {asked : Nat} (h : PQ d s asked) (ha : asked ≤ 100000) (b : Nat) : s.times b ≤ 999999 := by
  have h1 := sum_memL s.er b
  have h2 := h.hi
  unfold Fl.times
  omega
theorem PQ.new : PQ Fl.new Fl.new 0 := ⟨OkD.new, Fl.new_ok, by decide, fun _ _ => rfl⟩
theorem PQ.write {d d0 s : Fl} {asked : Nat} (h : PQ d s asked) {p : Page} (hp : p.1 < 8) (h0 : Dok d0) (hc : ¬ d0.crowded) (hv : ∀ q, q < 8 → d0.val q = d.val q) : PQ (d0.place.down p) (s.write p) (asked + 1) := by
  obtain ⟨h1, h2, h3⟩ := h.ok.write_tot p
  obtain ⟨k1, k2, k3⟩ := h0.write hc hp
  obtain ⟨m1, m2, m3⟩ := h.ok.write hp
  have h4 := h.hi
  refine ⟨k1, m1, by omega, fun q hq => ?_⟩
  by_cases hqp : q = p.1
  · subst hqp
    rw [k2, m2]
  · rw [k3 q hq hqp, m3 q hq hqp, hv q hq, h.same q hq]
theorem PQ.more {d s : Fl} {asked : Nat} (h : PQ d s asked) : PQ d s (asked + 1) := ⟨h.dok, h.ok, by have := h.hi; omega, h.same⟩
theorem new_calm : ¬ Fl.new.crowded := fun h => h.2 1 (by decide) (new_row 1)

theorem rows_at {w : World} {a : Option Addr} {n cap : Nat} {rs : List (List Int)} (h : HasRows w (.slice a n cap) rs) {j : Nat} {r : List Int} (hr : rs[j]? = some r) :
    ∃ b off rv, a = some ⟨b, off, none⟩ ∧ w.cell? ⟨b, off + j, none⟩ = some rv ∧ HasInts w rv r ∧ b < w.heap.size := by
  obtain ⟨a', cap', h1, -, -, h4⟩ := h
  cases h1
  obtain ⟨b, off, h5, h8, h6⟩ := h4 (Nat.lt_of_le_of_lt (Nat.zero_le _) (List.getElem?_eq_some_iff.1 hr).1)
  obtain ⟨rv, h7, h9⟩ := h6 j r hr
  exact ⟨b, off, rv, h5, h7, h9, h8⟩

set_option maxRecDepth 100000 in
set_option maxHeartbeats 20000000 in
theorem tpages_walk (v0 : Value) (W : World) {rs : List (List Int)} (hv0 : RowsArg W v0 rs) (hH : Handled W) :
    Calls Tryd.prog 5 #[v0] W fun e w' => e = .returned (.bool true) ∧ Below W.heap.size W w' := by
  have HV := Lib.hid hv0.1
  have HH := Lib.hid hH
  clear hH hv0
  obtain ⟨la, n, lcap, rfl, hn, hnc, hcm⟩ : ∃ la n lcap, v0 = .slice la n lcap ∧ n = rs.length ∧ n ≤ lcap ∧ lcap ≤ maxLen := by
    obtain ⟨a, cap, h, h1, h2, -⟩ := HV.out
    exact ⟨a, rs.length, cap, h, rfl, h1, h2⟩
  have hnm : n ≤ 9223372036854775807 := by unfold maxLen at hcm; omega
  have HN := Lib.hid hn
  clear hn hnc hcm
  go_enter Tryd.func5, Tryd.ntmps5
  go_wp2_with fail
  refine (lnew_walk _).mono ?_
  rintro _ w1 ⟨rfl, hd1, hn1, hb1⟩
  obtain ⟨ga, hga⟩ : ∃ g, g = W.heap.size := ⟨_, rfl⟩
  rw [← hga] at hd1 hn1 ⊢
  have HD1 := Lib.hid hd1
  have HN1 := Lib.hid hn1
  have HB1 := Lib.hid hb1
  have HGA := Lib.hid hga
  clear hd1 hn1 hb1 hga
  go_wp2_with fail
  refine (fnew_walk _).mono ?_
  rintro _ w2 ⟨rfl, hs2, hb2⟩
  obtain ⟨gb, hgb⟩ : ∃ g, g = w1.heap.size := ⟨_, rfl⟩
  rw [← hgb] at hs2 ⊢
  have hab : ga < gb := by have := HD1.out.lo; omega
  have HPT2 : Hid (PT W w2 ga gb Fl.new Fl.new) := Lib.hid ⟨(HD1.out.below hb2).raise (fun b hb => (hb2.cell (p := ⟨ga, b, none⟩) (by have := HD1.out.lo; simp only; omega)).trans (HN1.out b hb)) (by omega) hs2.lo.2.2, hs2, ⟨by rw [HGA.out]; exact Nat.le_refl _, hab⟩, HB1.out.trans (hb2.mono HB1.out.size)⟩
  clear hs2 hb2 hgb HD1 HN1
  go_wp2_with fail
  refine (lwrite_walk w2 ga (gb + 1) ga Fl.new 1 2 HPT2.out.disk (fun b => by rw [new_row]; exact Nat.zero_le _) (by decide) (by decide)).mono ?_
  rintro e w3 ⟨⟨rfl, -, hd3⟩ | ⟨-, hcr, -⟩, hb3, hk3⟩
  rotate_left
  · exact absurd hcr new_calm
  have HPT3 := Lib.hid (HPT2.out.onDisk hd3 hb3 hk3)
  clear hd3 hb3 hk3
  go_wp2_with fail
  refine (fwrite_walk w3 gb (gb + 1) gb Fl.new 1 2 HPT3.out.flash Fl.new_ok (by decide) (by decide) (PQ.new.times (by decide))).mono ?_
  rintro _ w4 ⟨rfl, hs4, hb4, hk4⟩
  have HPT4 := Lib.hid (HPT3.out.onFlash hs4 hb4 hk4)
  clear hs4 hb4 hk4
  obtain ⟨hdk, hvl, -⟩ := OkD.new.write new_calm (p := (1, 2)) (by decide)
  have HDK := Lib.hid hdk
  have hvl' : (Fl.new.place.down (1, 2)).val 1 = 2 := hvl
  have HVL := Lib.hid hvl'
  clear hdk hvl hvl'
  go_wp2_with fail
  refine (lread_walk w4 ga (gb + 1) ga _ 1 HPT4.out.disk HDK.out (by decide)).mono ?_
  rw [HVL.out]
  rintro _ w5 ⟨rfl, hb5⟩
  have HB5 := Lib.hid (HPT4.out.below.trans (hb5.mono HPT4.out.below.size))
  clear hb5 HPT2 HPT3 HPT4 hab
  go_wp2_with fail
  refine (lnew_walk _).mono ?_
  rintro _ w6 ⟨rfl, hd1, hn1, hb1⟩
  obtain ⟨ga, hga⟩ : ∃ g, g = w5.heap.size := ⟨_, rfl⟩
  rw [← hga] at hd1 hn1 ⊢
  have hWa : W.heap.size ≤ ga := by rw [hga]; exact HB5.out.size
  have HD1 := Lib.hid hd1
  have HN1 := Lib.hid hn1
  have HB1 := Lib.hid (HB5.out.trans (hb1.mono HB5.out.size))
  clear hd1 hn1 hb1 hga
  go_wp2_with fail
  refine (fnew_walk _).mono ?_
  rintro _ w7 ⟨rfl, hs2, hb2⟩
  obtain ⟨gb, hgb⟩ : ∃ g, g = w6.heap.size := ⟨_, rfl⟩
  rw [← hgb] at hs2 ⊢
  have hab : ga < gb := by have := HD1.out.lo; omega
  have HPT : Hid (PT W w7 ga gb Fl.new Fl.new) := Lib.hid ⟨(HD1.out.below hb2).raise (fun b hb => (hb2.cell (p := ⟨ga, b, none⟩) (by have := HD1.out.lo; simp only; omega)).trans (HN1.out b hb)) (by omega) hs2.lo.2.2, hs2, ⟨hWa, hab⟩, HB1.out.trans (hb2.mono HB1.out.size)⟩
  clear hs2 hb2 hgb HD1 HN1
  go_wp2_with fail
  go_loopw [7] (fun ix wr => ∃ (j asked : Nat) (d s : Fl), j ≤ 100 ∧ asked ≤ j ∧ ix = .int .i64 (j : Nat) ∧ PQ d s asked ∧ PT W wr ga gb d s) (fun ix _ => 100 - (intOf ix).toNat)
  case atStart => exact ⟨0, 0, Fl.new, Fl.new, by omega, by omega, rfl, PQ.new, HPT.out⟩
  case round =>
    obtain ⟨j, asked, d, s, hj100, haj, rfl, hpq, hpt⟩ := hrel
    have HPQ := Lib.hid hpq
    have HPT := Lib.hid hpt
    have HBW := Lib.hid hpt.below
    clear hpq hpt
    by_cases hgo : j < n ∧ j < 100
    · obtain ⟨hlt, h100⟩ := hgo
      have q1 : decide (j < n) = true := decide_eq_true hlt
      have q2 : decide ((j : Int) < 100) = true := decide_eq_true (by omega)
      obtain ⟨rw0, hrw⟩ : ∃ r, rs[j]? = some r := ⟨_, List.getElem?_eq_getElem (by have := HN.out; omega)⟩
      obtain ⟨b0, o0, rv, rfl, hc0, hrv, hb0⟩ := rows_at HV.out hrw
      obtain ⟨ra, rcap, rfl, hrc1, hrc2, hrc3⟩ := hrv
      obtain ⟨ln, hln⟩ : ∃ n, n = rw0.length := ⟨_, rfl⟩
      rw [← hln] at hc0 hrc1
      have hlm : ln ≤ 9223372036854775807 := by unfold maxLen at hrc2; omega
      have hc0w := (HBW.out.cell (p := ⟨b0, o0 + j, none⟩) hb0).trans hc0
      have hj0 : (0 : Int) ≤ (j : Int) := by omega
      have hjn : (j : Int) < (n : Int) := by omega
      by_cases h2 : ln = 2
      rotate_left
      · have q3 : ((ln : Int) != 2) = true := bne_iff_ne.2 (by omega)
        clear hrw hc0 hrc1 hrc2 hrc3 hln h2
        go_wp2_with fail
        go_roundw
        case rel => exact ⟨j + 1, asked, d, s, by omega, by omega, by go_num, HPQ.out, HPT.out⟩
        case measure => simp [intOf]; omega
      · subst h2
        have q3 : (((2 : Nat) : Int) != 2) = false := rfl
        obtain ⟨x, hx⟩ : ∃ x, rw0[0]? = some x := ⟨_, List.getElem?_eq_getElem (by omega)⟩
        obtain ⟨y, hy⟩ : ∃ y, rw0[1]? = some y := ⟨_, List.getElem?_eq_getElem (by omega)⟩
        obtain ⟨rb, ro, rfl, hrb, hcx⟩ := hrc3 (by omega)
        have hx0 := hcx 0 x hx
        have hy0 := hcx 1 y hy
        rw [Nat.add_zero] at hx0
        have HROW := Lib.hid (show ∀ w' : World, Below W.heap.size W w' → (w'.cell? ⟨rb, ro, none⟩ = some (.int .i64 x) ∧ w'.cell? ⟨rb, ro + 1, none⟩ = some (.int .i64 y)) from fun w' hb => ⟨(hb.cell (p := ⟨rb, ro, none⟩) hrb).trans hx0, (hb.cell (p := ⟨rb, ro + 1, none⟩) hrb).trans hy0⟩)
        clear hrw hc0 hrc1 hrc2 hrc3 hln hx hy hcx hx0 hy0
        obtain ⟨hx1, hy1⟩ := HROW.out _ HBW.out
        go_wp2_with fail
        go_still_tail 7, (by kernel_rfl)
        change wpList _ _ _ _ _ wr.drew
        go_wp2_with fail
        have HPD := Lib.hid (HPT.out.later (Below.refl wr.heap.size wr).drew)
        clear hx1 hy1 hc0w
        by_cases hin : (0 ≤ x ∧ x ≤ 7) ∧ (0 ≤ y ∧ y ≤ 1000)
        rotate_left
        · have HNIN := Lib.hid hin
          clear hin
          refine (lwrite_no wr.drew ga x y HNIN.out).mono ?_
          rintro _ w8 ⟨rfl, hw8⟩
          obtain rfl := hw8.symm
          go_wp2_with fail
          refine (error_is 1 4 wr.drew (HH.out.below HPD.out.below)).mono ?_
          rintro _ w9 ⟨rfl, hb9⟩
          have HP9 := Lib.hid (HPD.out.later hb9)
          clear hb9
          obtain ⟨hx2, hy2⟩ := HROW.out _ HP9.out.below
          go_wp2_with fail
          go_still_tail 7, (by kernel_rfl)
          change wpList _ _ _ _ _ w9.drew
          go_wp2_with fail
          refine (fwrite_no w9.drew gb x y HNIN.out).mono ?_
          rintro _ w10 ⟨rfl, hw10⟩
          obtain rfl := hw10.symm
          have HP10 := Lib.hid (HP9.out.later (Below.refl w9.heap.size w9).drew)
          go_wp2_with fail
          go_quiet (fail)
          have HP11 := Lib.hid (HP9.out.later (below_drewN' w9 (1 + nq)))
          go_wp2_with fail
          go_roundw
          case rel => exact ⟨j + 1, asked + 1, d, s, by omega, by omega, by go_num, HPQ.out.more, HP11.out⟩
          case measure => simp [intOf]; omega
        · obtain ⟨p, rfl⟩ : ∃ p : Nat, x = p := ⟨x.toNat, by omega⟩
          have hp8 : p < 8 := by omega
          have HY := Lib.hid hin.2
          clear hin
          refine (lwrite_walk wr.drew ga (gb + 1) ga d p y HPD.out.disk HPQ.out.dok.small hp8 HY.out).mono ?_
          rintro e w8 ⟨⟨rfl, hcr, hd8⟩ | ⟨rfl, hcr, hd8⟩, hb8, hk8⟩
          · have HP8 := Lib.hid (HPD.out.onDisk hd8 hb8 hk8)
            have HPQ8 := Lib.hid (HPQ.out.write (p := (p, y)) hp8 HPQ.out.dok hcr (fun _ _ => rfl))
            clear hcr hd8 hb8 hk8
            go_wp2_with fail
            refine (error_nil 4 w8).mono ?_
            rintro _ w9 ⟨rfl, rfl⟩
            obtain ⟨hx2, hy2⟩ := HROW.out _ HP8.out.below
            go_wp2_with fail
            go_still_tail 7, (by kernel_rfl)
            change wpList _ _ _ _ _ w8.drew
            go_wp2_with fail
            have HP9 := Lib.hid (HP8.out.later (Below.refl w8.heap.size w8).drew)
            refine (fwrite_walk w8.drew gb (gb + 1) gb s p y HP9.out.flash HPQ.out.ok hp8 HY.out (HPQ.out.times (by omega))).mono ?_
            rintro _ w10 ⟨rfl, hs10, hb10, hk10⟩
            have HP10 := Lib.hid (HP9.out.onFlash hs10 hb10 hk10)
            clear hs10 hb10 hk10 hx2 hy2
            go_wp2_with fail
            go_quiet (fail)
            have HP11 := Lib.hid (HP10.out.later (below_drewN' w10 nq))
            go_wp2_with fail
            go_roundw
            case rel => exact ⟨j + 1, asked + 1, _, _, by omega, by omega, by go_num, HPQ8.out, HP11.out⟩
            case measure => simp [intOf]; omega
          · have HP8 := Lib.hid (HPD.out.onDisk hd8 hb8 hk8)
            obtain ⟨k1, k2, k3⟩ := HPQ.out.dok.cleaned hcr
            have HPQ8 := Lib.hid (HPQ.out.write (p := (p, y)) hp8 k1 k2 k3)
            have HK1 := Lib.hid k1
            have HK2 := Lib.hid k2
            have HCR := Lib.hid hcr
            clear hcr hd8 hb8 hk8 k1 k2 k3
            go_wp2_with fail
            refine (error_is 4 4 w8 (HH.out.below HP8.out.below)).mono ?_
            rintro _ w9 ⟨rfl, hb9⟩
            have HP9 := Lib.hid (HP8.out.later hb9)
            clear hb9
            go_wp2_with fail
            refine (lclean_walk w9 ga (gb + 1) ga d HP9.out.disk HPQ.out.dok HCR.out).mono ?_
            rintro _ w10 ⟨⟨cb, rfl⟩, hd10, hb10, hk10⟩
            have HP10 := Lib.hid (HP9.out.onDisk hd10 hb10 hk10)
            clear hd10 hb10 hk10
            obtain ⟨hx2, hy2⟩ := HROW.out _ HP10.out.below
            go_wp2_with fail
            go_still_tail 7, (by kernel_rfl)
            change wpList _ _ _ _ _ w10.drew
            go_wp2_with fail
            have HP11 := Lib.hid (HP10.out.later (Below.refl w10.heap.size w10).drew)
            clear hx2 hy2
            refine (lwrite_walk w10.drew ga (gb + 1) ga d.cleaned p y HP11.out.disk HK1.out.small hp8 HY.out).mono ?_
            rintro e w12 ⟨⟨rfl, -, hd12⟩ | ⟨-, hcr, -⟩, hb12, hk12⟩
            rotate_left
            · exact absurd hcr HK2.out
            have HP12 := Lib.hid (HP11.out.onDisk hd12 hb12 hk12)
            clear hd12 hb12 hk12
            obtain ⟨hx2, hy2⟩ := HROW.out _ HP12.out.below
            go_wp2_with fail
            go_still_tail 7, (by kernel_rfl)
            change wpList _ _ _ _ _ w12.drew
            go_wp2_with fail
            have HP13 := Lib.hid (HP12.out.later (Below.refl w12.heap.size w12).drew)
            refine (fwrite_walk w12.drew gb (gb + 1) gb s p y HP13.out.flash HPQ.out.ok hp8 HY.out (HPQ.out.times (by omega))).mono ?_
            rintro _ w14 ⟨rfl, hs14, hb14, hk14⟩
            have HP14 := Lib.hid (HP13.out.onFlash hs14 hb14 hk14)
            clear hs14 hb14 hk14 hx2 hy2
            go_wp2_with fail
            go_quiet (fail)
            have HP15 := Lib.hid (HP14.out.later (below_drewN' w14 nq))
            go_wp2_with fail
            go_roundw
            case rel => exact ⟨j + 1, asked + 1, _, _, by omega, by omega, by go_num, HPQ8.out, HP15.out⟩
            case measure => simp [intOf]; omega
    · have hcase : decide (j < n) = false ∨ (decide (j < n) = true ∧ decide ((j : Int) < 100) = false) := by
        by_cases h : j < n
        · exact .inr ⟨decide_eq_true h, decide_eq_false (by omega)⟩
        · exact .inl (decide_eq_false h)
      clear hgo
      rcases hcase with q1 | ⟨q1, q2⟩
      all_goals
        go_wp2_with fail
        go_loopw [13] (fun ix wr => ∃ k : Nat, k ≤ 8 ∧ ix = .int .i64 (k : Nat) ∧ PT W wr ga gb d s) (fun ix _ => 8 - (intOf ix).toNat)
        case atStart => exact ⟨0, by omega, rfl, HPT.out⟩
        case round =>
          obtain ⟨k, hk, rfl, hpk⟩ := hrel
          have HPK := Lib.hid hpk
          clear hpk
          by_cases hlt : k < 8
          · have q3 : decide ((k : Int) < 8) = true := decide_eq_true (by omega)
            obtain ⟨vv, hvv⟩ : ∃ v, v = s.val k := ⟨_, rfl⟩
            have HVV := Lib.hid hvv
            have HVD : Hid (d.val k = vv) := Lib.hid (by rw [HPQ.out.same k hlt, hvv])
            clear hvv
            go_wp2_with fail
            refine (lread_walk wr ga (gb + 1) ga d k HPK.out.disk HPQ.out.dok hlt).mono ?_
            rw [HVD.out]
            rintro _ w8 ⟨rfl, hb8⟩
            have HP8 := Lib.hid (HPK.out.later hb8)
            clear hb8
            go_wp2_with fail
            refine (read_walk w8 gb (gb + 1) gb s k HP8.out.flash HPQ.out.ok hlt).mono ?_
            rw [← HVV.out]
            rintro _ w9 ⟨rfl, hb9⟩
            have HP9 := Lib.hid (HP8.out.later hb9)
            clear hb9
            have q4 : (vv != vv) = false := by simp
            go_wp2_with fail
            go_roundw
            case rel => exact ⟨k + 1, by omega, by go_num, HP9.out⟩
            case measure => simp [intOf]; omega
          · obtain rfl : k = 8 := by omega
            have q3 : decide (((8 : Nat) : Int) < 8) = false := rfl
            go_wp2_with fail
            go_ret
            exact ⟨rfl, HPK.out.below⟩

end Go.Proofs.YtegibgflhhdddaaDoor.Lf
