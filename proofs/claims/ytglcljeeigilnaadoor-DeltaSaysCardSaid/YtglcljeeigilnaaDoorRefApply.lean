/- The walk of the reference's Apply. -/
import Derived.Test.YtglcljeeigilnaaDoorApply
namespace Go.Proofs.YtglcljeeigilnaaDoor
open Go.RowKit Delta

structure RaRel (W wr : World) (o : ByteArray) (l : List Pc) (k : Nat) (a : ByteArray) : Prop where
  res : apTo o (l.drop k) a = apTo o l ByteArray.empty
  le : a.size ≤ 2000
  below : Below W.heap.size W wr

set_option maxRecDepth 100000 in
set_option maxHeartbeats 4000000 in
theorem refapply_any (o : ByteArray) (v0 : Value) (l : List Pc) (W : World) (ho : o.size ≤ 140737488351232) (hv : HasPieces W v0 l) (hsz : ∀ p ∈ l, p.own.size ≤ 140737488351232) (hpb : ∀ p ∈ l, -9223372036854775808 ≤ p.pos ∧ p.pos ≤ 9223372036854775807) :
    Calls Tryd.prog 21 #[.string o, v0] W fun e w' => e = .returned (.tuple #[.string (ap o l).2, .int .i64 (ap o l).1]) ∧ Below W.heap.size W w' := by
  obtain ⟨va, cap, rfl, hc1, hc2, hcell⟩ := hv
  have hcm : l.length ≤ 9223372036854775807 := by unfold maxLen at hc2; omega
  obtain ⟨n, hn⟩ : ∃ n, n = l.length := ⟨_, rfl⟩
  rw [← hn] at hcm hcell ⊢
  have HN := Lib.hid hn
  have HC := Lib.hid hcell
  have HSZ := Lib.hid hsz
  have HPB := Lib.hid hpb
  clear hcell hc1 hc2 hsz hpb
  by_cases hbig : 2000 < o.size ∨ 2000 < n
  · have hap : ap o l = (4, ByteArray.empty) := by unfold ap; rw [if_pos (by rw [← hn]; exact hbig)]
    rw [hap]
    clear hap hn
    have hcase : decide ((2000 : Int) < (o.size : Int)) = true ∨ (decide ((2000 : Int) < (o.size : Int)) = false ∧ decide ((2000 : Int) < (n : Int)) = true) := by
      by_cases h : 2000 < o.size
      · exact .inl (decide_eq_true (by omega))
      · exact .inr ⟨decide_eq_false (by omega), decide_eq_true (by omega)⟩
    clear hbig
    rcases hcase with q1 | ⟨q1, q2⟩
    all_goals
      go_enter Tryd.func21, Tryd.ntmps21
      go_wp2_with fail
      go_ret2
      exact ⟨rfl, Below.refl _ _⟩
  · have hap : ap o l = apTo o l ByteArray.empty := by unfold ap; rw [if_neg (by rw [← hn]; exact hbig)]
    rw [hap]
    have hoz : o.size ≤ 2000 := by omega
    have hnz : n ≤ 2000 := by omega
    have q1 : decide ((2000 : Int) < (o.size : Int)) = false := decide_eq_false (by omega)
    have q2 : decide ((2000 : Int) < (n : Int)) = false := decide_eq_false (by omega)
    obtain ⟨R, hR⟩ : ∃ R, R = apTo o l ByteArray.empty := ⟨_, rfl⟩
    rw [← hR]
    have HRR := Lib.hid hR
    clear hap hn hR hbig ho
    go_enter Tryd.func21, Tryd.ntmps21
    go_wp2_with fail
    go_loopw [6, 7] (fun av ix wr => ∃ (k : Nat) (a : ByteArray), k ≤ n ∧ ix = .int .i64 k ∧ av = .string a ∧ RaRel W wr o l k a) (fun _ ix _ => n - (intOf ix).toNat)
    case atStart => exact ⟨0, ByteArray.empty, by omega, rfl, rfl, rfl, by decide, Below.refl _ _⟩
    case round =>
      obtain ⟨k, a, hk, rfl, rfl, hr⟩ := hrel
      have HR := Lib.hid hr
      have hale := hr.le
      clear hr
      by_cases hlt : k < n
      · have q3 : decide (k < n) = true := decide_eq_true hlt
        obtain ⟨p, hp⟩ : ∃ p, l[k]? = some p := ⟨_, List.getElem?_eq_getElem (by have := HN.out; omega)⟩
        obtain ⟨b, off, rfl, hbb, hcs⟩ := HC.out (by omega)
        obtain ⟨c1, c2, c3⟩ := hcs k p hp
        have hps := HSZ.out p (List.mem_of_getElem? hp)
        have hpp := HPB.out p (List.mem_of_getElem? hp)
        have hbl := HR.out.below
        rw [← hbl.cell (p := ⟨b, off + k * 3, none⟩) hbb] at c1
        rw [← hbl.cell (p := ⟨b, off + k * 3 + 1, none⟩) hbb] at c2
        rw [← hbl.cell (p := ⟨b, off + k * 3 + 2, none⟩) hbb] at c3
        have hdrop : l.drop k = p :: l.drop (k + 1) := by rw [List.drop_eq_getElem_cons (by have := HN.out; omega)]; congr 1; have := List.getElem?_eq_some_iff.1 hp; exact this.2
        have HDR := Lib.hid (show apTo o (p :: l.drop (k + 1)) a = R by rw [← hdrop, HR.out.res, HRR.out])
        have HBX := Lib.hid (fun ob => HR.out.below.alloc HR.out.below.size ob)
        clear hcs hp hbl hdrop
        by_cases hz : p.size = 0
        · rw [hz] at c2
          by_cases hpos : p.pos = 0
          · rw [hpos] at c1
            have hb1 : bad1 o p = false := by unfold bad1; rw [decide_eq_false_iff_not]; exact fun h => h.1 hz
            have hb3 : bad3 p = false := by unfold bad3; rw [decide_eq_false_iff_not]; rintro (⟨h, -⟩ | ⟨-, h⟩); exact h hz; exact h hpos
            have htx : txt o p = p.own := by unfold txt; rw [if_pos hz]; simp
            have hend := HDR.out
            simp only [apTo, hb1, hb3, Bool.false_eq_true, if_false, htx] at hend
            have HEND := Lib.hid hend
            have HSZ2 := Lib.hid (ByteArray.size_append (a := a) (b := p.own))
            clear hb1 hb3 htx hend hz hpos hpp
            by_cases hbig : 2000 < a.size + p.own.size
            · have q6 : decide ((2000 : Int) < (a.size : Int) + (p.own.size : Int)) = true := decide_eq_true (by omega)
              have HE := Lib.hid (show (4, ByteArray.empty) = R by rw [← HEND.out, if_pos (by rw [HSZ2.out]; exact hbig)])
              go_wp2_with fail
              go_ret2
              exact ⟨by rw [← HE.out]; rfl, HBX.out _⟩
            · have q6 : decide ((2000 : Int) < (a.size : Int) + (p.own.size : Int)) = false := decide_eq_false (by omega)
              have HE := Lib.hid (show apTo o (l.drop (k + 1)) (a ++ p.own) = R by rw [← HEND.out, if_neg (by rw [HSZ2.out]; exact hbig)])
              go_wp2_with fail
              go_roundw
              case rel => exact ⟨k + 1, a ++ p.own, by omega, by go_num, rfl, by rw [HE.out, HRR.out], by rw [HSZ2.out]; omega, HBX.out _⟩
              case measure => simp [intOf]; omega
          · have q5 : (p.pos == 0) = false := beq_eq_false_iff_ne.2 hpos
            have q5' : (p.pos != 0) = true := bne_iff_ne.2 hpos
            have hb1 : bad1 o p = false := by unfold bad1; rw [decide_eq_false_iff_not]; exact fun h => h.1 hz
            have hb3 : bad3 p = true := by unfold bad3; rw [decide_eq_true_iff]; exact .inr ⟨hz, hpos⟩
            have hend := HDR.out
            simp only [apTo, hb1, hb3, Bool.false_eq_true, if_false, if_true] at hend
            have HEND := Lib.hid hend
            clear hb1 hb3 hend hz hpos hpp
            go_wp2_with fail
            go_ret2
            exact ⟨by rw [← HEND.out]; rfl, HBX.out _⟩
        · have q4 : (p.size == 0) = false := beq_eq_false_iff_ne.2 hz
          have q4' : (p.size != 0) = true := bne_iff_ne.2 hz
          by_cases hok : (0 ≤ p.pos ∧ p.pos ≤ (o.size : Int)) ∧ (1 ≤ p.size ∧ p.size ≤ (o.size : Int) - p.pos)
          · obtain ⟨⟨ha, hb⟩, hc, hd⟩ := hok
            have hb1 : bad1 o p = false := by unfold bad1; rw [decide_eq_false_iff_not]; exact fun h => h.2 ⟨⟨ha, hb⟩, hc, hd⟩
            obtain ⟨x, hx⟩ : ∃ x : Nat, p.pos = x := ⟨p.pos.toNat, by omega⟩
            obtain ⟨y, hy⟩ : ∃ y : Nat, p.size = y := ⟨p.size.toNat, by omega⟩
            have htx : txt o p = o.extract x (x + y) ++ p.own := by unfold txt; rw [if_neg hz, hx, hy, Int.toNat_natCast, Int.toNat_natCast]
            rw [hx] at c1 hb hd
            rw [hy] at c2 hc hd q4 q4' hz
            have hxy : x + y ≤ o.size := by omega
            have hy1 : 1 ≤ y := by omega
            have r1 : decide ((y : Int) < 0) = false := decide_eq_false (by omega)
            have r2 : decide ((x : Int) < 0) = false := decide_eq_false (by omega)
            have r3 : decide ((o.size : Int) < (x : Int)) = false := decide_eq_false (by omega)
            have r3' : decide (o.size < x) = false := decide_eq_false (by omega)
            have r4 : decide ((o.size : Int) - (x : Int) < (y : Int)) = false := decide_eq_false (by omega)
            have r5 : decide ((0 : Int) < (y : Int)) = true := decide_eq_true (by omega)
            have r5' : decide (0 < y) = true := decide_eq_true (by omega)
            by_cases hown : p.own = ByteArray.empty
            · have hb3 : bad3 p = false := by unfold bad3; rw [decide_eq_false_iff_not]; rintro (⟨-, h⟩ | ⟨h, -⟩); exact h hown; omega
              rw [hown] at htx c3
              rw [ByteArray.append_empty] at htx
              have hend := HDR.out
              simp only [apTo, hb1, hb3, Bool.false_eq_true, if_false, htx] at hend
              have HEND := Lib.hid hend
              have hex : (o.extract x (x + y)).size = y := by rw [ext_size _ _ _ hxy]; omega
              have HSZ2 := Lib.hid (show (a ++ o.extract x (x + y)).size = a.size + y by rw [ByteArray.size_append, hex])
              clear hend hb1 hb3 htx hown hx hy hz ha hpp hex
              by_cases hbig : 2000 < a.size + y
              · have q6 : decide ((2000 : Int) < (a.size : Int) + (y : Int)) = true := decide_eq_true (by omega)
                have HE := Lib.hid (show (4, ByteArray.empty) = R by rw [← HEND.out, if_pos (by rw [HSZ2.out]; exact hbig)])
                go_wp2_with fail
                go_ret2
                exact ⟨by rw [← HE.out]; rfl, HBX.out _⟩
              · have q6 : decide ((2000 : Int) < (a.size : Int) + (y : Int)) = false := decide_eq_false (by omega)
                have HE := Lib.hid (show apTo o (l.drop (k + 1)) (a ++ o.extract x (x + y)) = R by rw [← HEND.out, if_neg (by rw [HSZ2.out]; exact hbig)])
                go_wp2_with fail
                go_roundw
                case rel => exact ⟨k + 1, _, by omega, by go_num, rfl, by rw [HE.out, HRR.out], by rw [HSZ2.out]; omega, HBX.out _⟩
                case measure => simp [intOf]; omega
            · have q7 : (p.own.toList == []) = false := beq_eq_false_iff_ne.2 fun e => hown (str_inj (by rw [e, ByteArray.toList_eq]; rfl))
              have q7' : (p.own.toList != []) = true := bne_iff_ne.2 fun e => hown (str_inj (by rw [e, ByteArray.toList_eq]; rfl))
              have q7'' : p.own.toList.isEmpty = false := by simp; exact fun e => hown (str_inj (by rw [e, ByteArray.toList_eq]; rfl))
              have hb3 : bad3 p = true := by unfold bad3; rw [decide_eq_true_iff]; exact .inl ⟨by omega, hown⟩
              have hend := HDR.out
              simp only [apTo, hb1, hb3, Bool.false_eq_true, if_false, if_true] at hend
              have HEND := Lib.hid hend
              clear hend hb1 hb3 htx hown hx hy hz ha hpp
              go_wp2_with fail
              go_ret2
              exact ⟨by rw [← HEND.out]; rfl, HBX.out _⟩
          · have hb1 : bad1 o p = true := by unfold bad1; rw [decide_eq_true_iff]; exact ⟨hz, hok⟩
            have hend := HDR.out
            simp only [apTo, hb1, if_true] at hend
            have HEND := Lib.hid hend
            clear hend hb1
            by_cases h1 : p.size < 0
            · have r1 : decide (p.size < 0) = true := decide_eq_true h1
              clear hz hok hpp
              go_wp2_with fail
              go_ret2
              exact ⟨by rw [← HEND.out]; rfl, HBX.out _⟩
            · have r1 : decide (p.size < 0) = false := decide_eq_false h1
              by_cases h2 : p.pos < 0
              · have r2 : decide (p.pos < 0) = true := decide_eq_true h2
                clear hz hok hpp
                go_wp2_with fail
                go_ret2
                exact ⟨by rw [← HEND.out]; rfl, HBX.out _⟩
              · have r2 : decide (p.pos < 0) = false := decide_eq_false h2
                by_cases h3 : (o.size : Int) < p.pos
                · have r3 : decide ((o.size : Int) < p.pos) = true := decide_eq_true h3
                  clear hz hok
                  go_wp2_with fail
                  go_ret2
                  exact ⟨by rw [← HEND.out]; rfl, HBX.out _⟩
                · have r3 : decide ((o.size : Int) < p.pos) = false := decide_eq_false h3
                  have h0 : 0 ≤ p.pos := by omega
                  have h3' : p.pos ≤ (o.size : Int) := by omega
                  have r4 : decide ((o.size : Int) - p.pos < p.size) = true := decide_eq_true (by omega)
                  clear hz hok
                  go_wp2_with fail
                  go_ret2
                  exact ⟨by rw [← HEND.out]; rfl, HBX.out _⟩
      · obtain rfl : k = n := by omega
        have q3 : decide (k < k) = false := decide_eq_false hlt
        have HE := Lib.hid (show (0, a) = R by have h := HR.out.res; rw [List.drop_of_length_le (by have := HN.out; omega)] at h; rw [HRR.out, ← h]; rfl)
        have HB := Lib.hid HR.out.below
        go_wp2_with fail
        go_ret2
        exact ⟨by rw [← HE.out]; rfl, HB.out⟩

end Go.Proofs.YtglcljeeigilnaaDoor
