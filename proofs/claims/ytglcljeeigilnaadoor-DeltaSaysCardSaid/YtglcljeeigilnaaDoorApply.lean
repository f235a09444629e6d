/- The walk of delta.Apply. -/
import Derived.Test.YtglcljeeigilnaaDoorDelta1
import Derived.Test.YtglcljeeigilnaaDoorBldLen
import Derived.Test.YtglcljeeigilnaaDoorBldStr
namespace Go.Proofs.YtglcljeeigilnaaDoor
open Go.RowKit Delta
open Go.Lib (byteCells strCells strCells_length byteCells_length byteCells_append)

theorem Bld.later {w w' : World} {T cells base b off : Nat} {l : List UInt8} (h : Bld w T cells base b off l) (hb : Below w.heap.size w w') : Bld w' T cells base b off l := by
  obtain ⟨lo, ⟨p, h1, h1'⟩, ⟨v, h2, h3⟩, h4, h5, h6, h7⟩ := h
  have hbw : b < w.heap.size := by omega
  have hlt := h3.lt
  refine ⟨⟨lo.1, Nat.le_trans lo.2 hb.size⟩, ⟨p, by rw [hb.cell (p := ⟨b, off, none⟩) hbw]; exact h1, h1'⟩, ⟨v, by rw [hb.cell (p := ⟨b, off + 1, none⟩) hbw]; exact h2, h3.1, ?_⟩, fun o => by rw [hb.frozen (p := ⟨b, o, none⟩) hbw]; exact h4 o, by unfold World.shape? at h5 ⊢; rw [hb.block b hbw]; exact h5, h6, h7⟩
  rcases h3.2 with h | ⟨g, cap, cur, fz, rfl, hbg, hg, rest⟩
  · exact .inl h
  · exact .inr ⟨g, cap, cur, fz, rfl, hbg, by rw [hb.block g (hlt g rfl).2]; exact hg, rest⟩

set_option maxRecDepth 100000 in
theorem liesB : liesAt Tryd.prog Tryd.prog.depth 79 (2 / Tryd.prog.cellsOf 79) 0 79 1 = true := by kernel_rfl
set_option maxRecDepth 100000 in
theorem Bld.fresh (w : World) : Bld (w.alloc (.cells #[.pointer none, .slice none 0 0] 79)) 79 2 (w.heap.size + 1) w.heap.size 0 [] := by
  refine ⟨⟨by omega, by simp⟩, ⟨none, by rw [World.cell?_alloc_at _ _ _ _ rfl]; rfl, .inl rfl⟩, ⟨.slice none 0 0, by rw [World.cell?_alloc_at _ _ _ _ rfl]; rfl, World.ownsRowF_nil _ _ _ _⟩, fun o => by simp, ?_, liesB, by omega⟩
  unfold World.shape?
  rw [heap_alloc_new]
  rfl

/-- what Apply does with a piece -/
def bad1 (o : ByteArray) (p : Pc) : Bool := decide (p.size ≠ 0 ∧ ¬ ((0 ≤ p.pos ∧ p.pos ≤ o.size) ∧ (1 ≤ p.size ∧ p.size ≤ o.size - p.pos)))
def bad3 (p : Pc) : Bool := decide ((p.size ≠ 0 ∧ p.own ≠ ByteArray.empty) ∨ (p.size = 0 ∧ p.pos ≠ 0))
def apTo (o : ByteArray) : List Pc → ByteArray → Int × ByteArray
  | [], a => (0, a)
  | p :: l, a => if bad1 o p = true then (1, ByteArray.empty) else if bad3 p = true then (3, ByteArray.empty) else if 2000 < (a ++ txt o p).size then (4, ByteArray.empty) else apTo o l (a ++ txt o p)
def ap (o : ByteArray) (l : List Pc) : Int × ByteArray := if 2000 < o.size ∨ 2000 < l.length then (4, ByteArray.empty) else apTo o l ByteArray.empty

theorem apTo_good {o : ByteArray} (l : List Pc) (a : ByteArray) (hg : ∀ p ∈ l, Delta.Good o p) (hs : (l.foldl (fun a p => a ++ txt o p) a).size ≤ 2000) : apTo o l a = (0, l.foldl (fun a p => a ++ txt o p) a) := by
  induction l generalizing a with
  | nil => rfl
  | cons p l ih =>
    have mono : ∀ (l : List Pc) (a : ByteArray), a.size ≤ (l.foldl (fun a p => a ++ txt o p) a).size := by
      intro l
      induction l with
      | nil => intro a; exact Nat.le_refl _
      | cons p l ih => intro a; exact Nat.le_trans (by rw [ByteArray.size_append]; omega) (ih _)
    have h1 : bad1 o p = false := by
      unfold bad1
      rw [decide_eq_false_iff_not]
      rcases hg p (by simp) with ⟨h, -⟩ | ⟨h1, h2, h3, h4⟩
      · exact fun h' => h'.1 h
      · exact fun h' => h'.2 ⟨⟨h2, by omega⟩, h3, by omega⟩
    have h3 : bad3 p = false := by
      unfold bad3
      rw [decide_eq_false_iff_not]
      rcases hg p (by simp) with ⟨h, h'⟩ | ⟨h1, h2, h3, h4⟩
      · rintro (⟨h5, -⟩ | ⟨-, h5⟩)
        · exact h5 h
        · exact h5 h'
      · rintro (⟨-, h5⟩ | ⟨h5, -⟩)
        · exact h5 h1
        · omega
    have hs' := mono l (a ++ txt o p)
    simp only [List.foldl_cons] at hs ⊢
    simp only [apTo, h1, h3, Bool.false_eq_true, if_false]
    rw [if_neg (by omega), ih _ (fun q hq => hg q (List.mem_cons_of_mem _ hq)) hs]

theorem ap_good {o : ByteArray} {l : List Pc} (ho : o.size ≤ 2000) (hl : l.length ≤ 2000) (hg : ∀ p ∈ l, Delta.Good o p) (hs : (joined o l).size ≤ 2000) : ap o l = (0, joined o l) := by
  unfold ap
  rw [if_neg (by omega)]
  exact apTo_good l _ hg hs

theorem list_str {l : List UInt8} : (⟨l.toArray⟩ : ByteArray).data.toList = l := by simp

theorem Bld.row_old {w : World} {T cells base b off : Nat} {l : List UInt8} (h : Bld w T cells base b off l) (o : Obj) : bldRow (w.alloc o) b off ≠ some w.heap.size := by
  obtain ⟨v, h1, h2⟩ := h.row
  have hbw : b < w.heap.size := by have := h.lo; omega
  have hc : (w.alloc o).cell? ⟨b, off + 1, none⟩ = some v := by rw [((Below.refl w.heap.size w).alloc (Nat.le_refl _) o).cell (p := ⟨b, off + 1, none⟩) hbw]; exact h1
  intro e
  simp only [bldRow, hc] at e
  have := (h2.lt _ e).2
  omega

theorem data3 (a X : ByteArray) : (a ++ (X ++ ByteArray.empty)).data.toList = a.data.toList ++ X.data.toList ++ ByteArray.empty.data.toList := by simp

structure ApRel (W wr : World) (b : Nat) (o : ByteArray) (l : List Pc) (k : Nat) (a : ByteArray) : Prop where
  res : apTo o (l.drop k) a = apTo o l ByteArray.empty
  le : a.size ≤ 2000
  bld : Bld wr 79 2 (b + 1) b 0 a.data.toList
  below : Below W.heap.size W wr

set_option maxRecDepth 100000 in
set_option maxHeartbeats 4000000 in
theorem apply_any (o : ByteArray) (v0 : Value) (l : List Pc) (W : World) (ho : o.size ≤ 140737488351232) (hv : HasPieces W v0 l) (hsz : ∀ p ∈ l, p.own.size ≤ 140737488351232) :
    Calls Tryd.prog 22 #[.string o, v0] W fun e w' => e = .returned (.tuple #[.string (ap o l).2, errC (ap o l).1]) ∧ Below W.heap.size W w' := by
  obtain ⟨va, cap, rfl, hc1, hc2, hcell⟩ := hv
  have hcm : l.length ≤ 9223372036854775807 := by unfold maxLen at hc2; omega
  obtain ⟨n, hn⟩ : ∃ n, n = l.length := ⟨_, rfl⟩
  rw [← hn] at hcm hcell ⊢
  have HN := Lib.hid hn
  have HC := Lib.hid hcell
  have HSZ := Lib.hid hsz
  clear hcell hc1 hc2 hsz
  by_cases hbig : 2000 < o.size ∨ 2000 < n
  · have hap : ap o l = (4, ByteArray.empty) := by unfold ap; rw [if_pos (by rw [← hn]; exact hbig)]
    rw [hap]
    clear hap hn
    have hcase : decide ((2000 : Int) < (o.size : Int)) = true ∨ (decide ((2000 : Int) < (o.size : Int)) = false ∧ decide ((2000 : Int) < (n : Int)) = true) := by
      by_cases h : 2000 < o.size
      · exact .inl (decide_eq_true (by omega))
      · exact .inr ⟨decide_eq_false (by omega), decide_eq_true (by omega)⟩
    clear hbig
    rcases hcase with q1 | ⟨q1, q2⟩
    all_goals
      go_enter Tryd.func22, Tryd.ntmps22
      go_wp2_with fail
      go_ret2
      exact ⟨rfl, Below.refl _ _⟩
  · have hap : ap o l = apTo o l ByteArray.empty := by unfold ap; rw [if_neg (by rw [← hn]; exact hbig)]
    rw [hap]
    have hoz : o.size ≤ 2000 := by omega
    have hnz : n ≤ 2000 := by omega
    have q1 : decide ((2000 : Int) < (o.size : Int)) = false := decide_eq_false (by omega)
    have q2 : decide ((2000 : Int) < (n : Int)) = false := decide_eq_false (by omega)
    obtain ⟨R, hR⟩ : ∃ R, R = apTo o l ByteArray.empty := ⟨_, rfl⟩
    rw [← hR]
    have HRR := Lib.hid hR
    have HF := Lib.hid (Bld.fresh W)
    clear hap hn hR hbig ho
    go_enter Tryd.func22, Tryd.ntmps22
    go_wp2_with fail
    go_loopw [20] (fun ix wr => ∃ (k : Nat) (a : ByteArray), k ≤ n ∧ ix = .int .i64 k ∧ ApRel W wr W.heap.size o l k a) (fun ix _ => n - (intOf ix).toNat)
    case atStart => exact ⟨0, ByteArray.empty, by omega, rfl, rfl, by decide, HF.out, (Below.refl _ _).alloc (Nat.le_refl _) _⟩
    case round =>
      obtain ⟨k, a, hk, rfl, hr⟩ := hrel
      have HR := Lib.hid hr
      have hale := hr.le
      have hsize := hr.below.size
      have hbw := hr.bld.lo.2
      clear hr
      obtain ⟨B, hB⟩ : ∃ B, B = W.heap.size := ⟨_, rfl⟩
      rw [← hB] at hbw HR ⊢
      have HB := Lib.hid hB
      clear hB hsize
      by_cases hlt : k < n
      · have q3 : decide (k < n) = true := decide_eq_true hlt
        obtain ⟨p, hp⟩ : ∃ p, l[k]? = some p := ⟨_, List.getElem?_eq_getElem (by have := HN.out; omega)⟩
        obtain ⟨b, off, rfl, hbb, hcs⟩ := HC.out (by omega)
        obtain ⟨c1, c2, c3⟩ := hcs k p hp
        have hps := HSZ.out p (List.mem_of_getElem? hp)
        have hbl := HR.out.below
        rw [← hbl.cell (p := ⟨b, off + k * 3, none⟩) hbb] at c1
        rw [← hbl.cell (p := ⟨b, off + k * 3 + 1, none⟩) hbb] at c2
        rw [← hbl.cell (p := ⟨b, off + k * 3 + 2, none⟩) hbb] at c3
        have hdrop : l.drop k = p :: l.drop (k + 1) := by rw [List.drop_eq_getElem_cons (by have := HN.out; omega)]; congr 1; have := List.getElem?_eq_some_iff.1 hp; exact this.2
        have HDR := Lib.hid (show apTo o (p :: l.drop (k + 1)) a = R by rw [← hdrop, HR.out.res, HRR.out])
        clear hcs hp hbl hdrop
        have HBX := Lib.hid (HR.out.below.alloc HR.out.below.size (.cells #[.int .i64 p.pos, .int .i64 p.size, .string p.own] 54))
        have HBL := Lib.hid (HR.out.bld.later ((Below.refl _ _).alloc (Nat.le_refl _) (.cells #[.int .i64 p.pos, .int .i64 p.size, .string p.own] 54)))
        have hal : a.data.toList.length = a.size := by simp
        by_cases hz : p.size = 0
        · rw [hz] at HBX HBL c2
          by_cases hpos : p.pos = 0
          · rw [hpos] at HBX HBL c1
            have hb1 : bad1 o p = false := by unfold bad1; rw [decide_eq_false_iff_not]; exact fun h => h.1 hz
            have hb3 : bad3 p = false := by unfold bad3; rw [decide_eq_false_iff_not]; rintro (⟨h, -⟩ | ⟨-, h⟩); exact h hz; exact h hpos
            have htx : txt o p = p.own := by unfold txt; rw [if_pos hz]; simp
            have hend := HDR.out
            simp only [apTo, hb1, hb3, Bool.false_eq_true, if_false, htx] at hend
            have HEND := Lib.hid hend
            clear hb1 hb3 htx hend hz hpos
            go_wp2_with fail
            refine (bld_write _ _ _ _ _ _ _ p.own HBL.out (by omega)).mono ?_
            rintro _ w2 ⟨rfl, hb2, hf2⟩
            have HB2 := Lib.hid hb2
            have HF2 := Lib.hid (HBX.out.trans (hf2.below W.heap.size (by have := HB.out; omega) (by have := HB.out; omega)))
            clear hb2 hf2
            go_wp2_with fail
            obtain ⟨m, hm⟩ : ∃ m, m = (a.data.toList ++ p.own.data.toList).length := ⟨_, rfl⟩
            refine (bld_len _ _ _ _ _ _ _ HB2.out).mono ?_
            rw [← hm]
            rintro _ w3 ⟨rfl, rfl⟩
            have hm' : m = (a ++ p.own).size := by rw [hm]; simp
            have HM := Lib.hid hm'
            have hm3 : m ≤ 140737488353232 := by rw [hm', ByteArray.size_append]; omega
            clear hm hm'
            by_cases hbig : 2000 < m
            · have q6 : decide ((2000 : Int) < (m : Int)) = true := decide_eq_true (by omega)
              have HE := Lib.hid (show (4, ByteArray.empty) = R by rw [← HEND.out, if_pos (by rw [← HM.out]; exact hbig)])
              go_wp2_with fail
              go_ret2
              exact ⟨by rw [← HE.out]; rfl, HF2.out⟩
            · have q6 : decide ((2000 : Int) < (m : Int)) = false := decide_eq_false (by omega)
              have HE := Lib.hid (show apTo o (l.drop (k + 1)) (a ++ p.own) = R by rw [← HEND.out, if_neg (by rw [← HM.out]; exact hbig)])
              go_wp2_with fail
              go_roundw
              case rel => exact ⟨k + 1, a ++ p.own, by omega, by go_num, by rw [HE.out, HRR.out], by rw [← HM.out]; omega, by simpa using HB2.out, HF2.out⟩
              case measure => simp [intOf]; omega
          · have q5 : (p.pos == 0) = false := beq_eq_false_iff_ne.2 hpos
            have q5' : (p.pos != 0) = true := bne_iff_ne.2 hpos
            have hb1 : bad1 o p = false := by unfold bad1; rw [decide_eq_false_iff_not]; exact fun h => h.1 hz
            have hb3 : bad3 p = true := by unfold bad3; rw [decide_eq_true_iff]; exact .inr ⟨hz, hpos⟩
            have hend := HDR.out
            simp only [apTo, hb1, hb3, Bool.false_eq_true, if_false, if_true] at hend
            have HEND := Lib.hid hend
            clear hb1 hb3 hend hz hpos
            go_wp2_with fail
            go_ret2
            exact ⟨by rw [← HEND.out]; rfl, HBX.out⟩
        · have q4 : (p.size == 0) = false := beq_eq_false_iff_ne.2 hz
          have q4' : (p.size != 0) = true := bne_iff_ne.2 hz
          by_cases hd1 : 0 ≤ p.pos ∧ p.pos ≤ (o.size : Int)
          · have D1 := Lib.hid (decide_eq_true hd1)
            obtain ⟨hd1a, hd1b⟩ := hd1
            by_cases hd2 : 1 ≤ p.size ∧ p.size ≤ (o.size : Int) - p.pos
            · have D2 := Lib.hid (decide_eq_true hd2)
              obtain ⟨hd2a, hd2b⟩ := hd2
              have hb1 : bad1 o p = false := by unfold bad1; rw [decide_eq_false_iff_not]; exact fun h => h.2 ⟨⟨hd1a, hd1b⟩, hd2a, hd2b⟩
              obtain ⟨x, hx⟩ : ∃ x : Nat, p.pos = x := ⟨p.pos.toNat, by omega⟩
              obtain ⟨y, hy⟩ : ∃ y : Nat, p.size = y := ⟨p.size.toNat, by omega⟩
              have htx : txt o p = o.extract x (x + y) ++ p.own := by unfold txt; rw [if_neg hz, hx, hy, Int.toNat_natCast, Int.toNat_natCast]
              rw [hx] at c1 HBX HBL D1 D2 hd1b hd2b
              rw [hy] at c2 HBX HBL D2 hd2a hd2b q4 q4' hz
              have hxy : x + y ≤ o.size := by omega
              have hy1 : 1 ≤ y := by omega
              by_cases hown : p.own = ByteArray.empty
              · have hb3 : bad3 p = false := by unfold bad3; rw [decide_eq_false_iff_not]; rintro (⟨-, h⟩ | ⟨h, -⟩); exact h hown; omega
                rw [hown] at htx c3 HBX HBL
                have hend := HDR.out
                simp only [apTo, hb1, hb3, Bool.false_eq_true, if_false, htx] at hend
                have HEND := Lib.hid hend
                have hex : (o.extract x (x + y)).size = y := by rw [ext_size _ _ _ hxy]; omega
                have HEX := Lib.hid hex
                clear hend hb1 hb3 htx hown hx hy hz hd1a
                go_wp2_with fail
                refine (within_anyC _ _ _ _).mono ?_
                rw [D1.out]
                rintro _ w2 ⟨rfl, rfl⟩
                go_wp2_with fail
                refine (within_anyC _ _ _ _).mono ?_
                rw [D2.out]
                rintro _ w2 ⟨rfl, rfl⟩
                go_wp2_with fail
                refine (bld_write _ _ _ _ _ _ _ (o.extract x (x + y)) HBL.out (by omega)).mono ?_
                rintro _ w2 ⟨rfl, hb2, hf2⟩
                have HB2 := Lib.hid hb2
                have HF2 := Lib.hid (HBX.out.trans (hf2.below W.heap.size (by have := HB.out; omega) (by have := HB.out; omega)))
                have hblk := hf2.blocks wr.heap.size (by simp) (by omega) (HR.out.bld.row_old _)
                rw [heap_alloc_new] at hblk
                have c5 : w2.cell? ⟨wr.heap.size, 2, none⟩ = some (.string ByteArray.empty) := by unfold World.cell?; rw [hblk]; rfl
                clear hb2 hf2 hblk
                go_wp2_with fail
                refine (bld_write _ _ _ _ _ _ _ ByteArray.empty HB2.out (by simp only [List.length_append, Array.length_toList]; rw [show (o.extract x (x + y)).data.size = (o.extract x (x + y)).size from rfl, HEX.out]; rw [show a.data.size = a.size from rfl]; simp; omega)).mono ?_
                rintro _ w3 ⟨rfl, hb3, hf3⟩
                have HB3 := Lib.hid (show Bld w3 79 2 (B + 1) B 0 (a ++ (o.extract x (x + y) ++ ByteArray.empty)).data.toList by rw [data3]; exact hb3)
                have HF3 := Lib.hid (HF2.out.trans (hf3.below W.heap.size (by have := HB.out; omega) (by have := HB.out; omega)))
                clear hb3 hf3
                go_wp2_with fail
                obtain ⟨m, hm⟩ : ∃ m, m = (a ++ (o.extract x (x + y) ++ ByteArray.empty)).data.toList.length := ⟨_, rfl⟩
                refine (bld_len _ _ _ _ _ _ _ HB3.out).mono ?_
                rw [← hm]
                rintro _ w4 ⟨rfl, rfl⟩
                have hm' : m = (a ++ (o.extract x (x + y) ++ ByteArray.empty)).size := by rw [hm, Array.length_toList]; rfl
                have HM := Lib.hid hm'
                have hm3 : m ≤ 140737488353232 := by rw [hm', ByteArray.size_append, ByteArray.size_append, HEX.out]; simp; omega
                clear hm hm'
                by_cases hbig : 2000 < m
                · have q6 : decide ((2000 : Int) < (m : Int)) = true := decide_eq_true (by omega)
                  have HE := Lib.hid (show (4, ByteArray.empty) = R by rw [← HEND.out, if_pos (by rw [← HM.out]; exact hbig)])
                  go_wp2_with fail
                  go_ret2
                  exact ⟨by rw [← HE.out]; rfl, HF3.out⟩
                · have q6 : decide ((2000 : Int) < (m : Int)) = false := decide_eq_false (by omega)
                  have HE := Lib.hid (show apTo o (l.drop (k + 1)) (a ++ (o.extract x (x + y) ++ ByteArray.empty)) = R by rw [← HEND.out, if_neg (by rw [← HM.out]; exact hbig)])
                  go_wp2_with fail
                  go_roundw
                  case rel => exact ⟨k + 1, _, by omega, by go_num, by rw [HE.out, HRR.out], by rw [← HM.out]; omega, HB3.out, HF3.out⟩
                  case measure => simp [intOf]; omega
              · have q7 : (p.own.toList == []) = false := beq_eq_false_iff_ne.2 fun e => hown (str_inj (by rw [e, ByteArray.toList_eq]; rfl))
                have q7' : (p.own.toList != []) = true := bne_iff_ne.2 fun e => hown (str_inj (by rw [e, ByteArray.toList_eq]; rfl))
                have q7'' : p.own.toList.isEmpty = false := by simp; exact fun e => hown (str_inj (by rw [e, ByteArray.toList_eq]; rfl))
                have hb3 : bad3 p = true := by unfold bad3; rw [decide_eq_true_iff]; exact .inl ⟨by omega, hown⟩
                have hend := HDR.out
                simp only [apTo, hb1, hb3, Bool.false_eq_true, if_false, if_true] at hend
                have HEND := Lib.hid hend
                clear hend hb1 hb3 htx hown hx hy hz hd1a
                go_wp2_with fail
                refine (within_anyC _ _ _ _).mono ?_
                rw [D1.out]
                rintro _ w2 ⟨rfl, rfl⟩
                go_wp2_with fail
                refine (within_anyC _ _ _ _).mono ?_
                rw [D2.out]
                rintro _ w2 ⟨rfl, rfl⟩
                go_wp2_with fail
                go_ret2
                exact ⟨by rw [← HEND.out]; rfl, HBX.out⟩
            · have D2 := Lib.hid (decide_eq_false hd2)
              have hb1 : bad1 o p = true := by unfold bad1; rw [decide_eq_true_iff]; exact ⟨hz, fun h => hd2 h.2⟩
              have hend := HDR.out
              simp only [apTo, hb1, if_true] at hend
              have HEND := Lib.hid hend
              clear hend hb1 hz hd2
              go_wp2_with fail
              refine (within_anyC _ _ _ _).mono ?_
              rw [D1.out]
              rintro _ w2 ⟨rfl, rfl⟩
              go_wp2_with fail
              refine (within_anyC _ _ _ _).mono ?_
              rw [D2.out]
              rintro _ w2 ⟨rfl, rfl⟩
              go_wp2_with fail
              go_ret2
              exact ⟨by rw [← HEND.out]; rfl, HBX.out⟩
          · have D1 := Lib.hid (decide_eq_false hd1)
            have hb1 : bad1 o p = true := by unfold bad1; rw [decide_eq_true_iff]; exact ⟨hz, fun h => hd1 h.1⟩
            have hend := HDR.out
            simp only [apTo, hb1, if_true] at hend
            have HEND := Lib.hid hend
            clear hend hb1 hz hd1
            go_wp2_with fail
            refine (within_anyC _ _ _ _).mono ?_
            rw [D1.out]
            rintro _ w2 ⟨rfl, rfl⟩
            go_wp2_with fail
            go_ret2
            exact ⟨by rw [← HEND.out]; rfl, HBX.out⟩
      · obtain rfl : k = n := by omega
        have q3 : decide (k < k) = false := decide_eq_false hlt
        have HE := Lib.hid (show (0, a) = R by have h := HR.out.res; rw [List.drop_of_length_le (by have := HN.out; omega)] at h; rw [HRR.out, ← h]; rfl)
        go_wp2_with fail
        refine (bld_str _ _ _ _ _ _ _ HR.out.bld).mono ?_
        rintro _ w2 ⟨rfl, hb2, hf2⟩
        have HF2 := Lib.hid (HR.out.below.trans (hf2.below W.heap.size (by have := HB.out; omega) (by have := HB.out; omega)))
        clear hb2 hf2
        go_wp2_with fail
        go_ret2
        exact ⟨by rw [← HE.out]; simp [errC], HF2.out⟩

end Go.Proofs.YtglcljeeigilnaaDoor
