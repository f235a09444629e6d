/- The reference's book: New, Write, Do. -/
import Derived.Test.YtegibgflhhdddaaGreatDoorRefBook1
import Derived.Test.YtegibgflhhdddaaGreatDoorTold
namespace Go.Proofs.YtegibgflhhdddaaGreatDoor
open Go.RowKit

def RefRes (b : Bk) (rest : Array Value) (e : Ending) (w' : World) : Prop := ∃ v1 v2 v3, e = .returned (.tuple (#[refV v1 v2 v3 b] ++ rest)) ∧ RefIs w' v1 v2 v3 b

theorem HasInts.sl {w : World} {v : Value} {L : List Int} (h : HasInts w v L) : ∃ a n c, v = .slice a n c ∧ n = L.length := by
  obtain ⟨a, cap, h1, -⟩ := h
  exact ⟨a, _, cap, h1, rfl⟩

theorem mk8 : ∀ w : World, (Instr.makeSlice 42 (.int .i64 8) (.int .i64 8)).run Tryz.prog w = .ok (.slice (some ⟨w.heap.size, 0, none⟩) 8 8) (w.alloc (.cells #[.int .i64 0, .int .i64 0, .int .i64 0, .int .i64 0, .int .i64 0, .int .i64 0, .int .i64 0, .int .i64 0] 3)) := fun _ => by kernel_rfl

theorem ints8 (w : World) {g : Nat} (hh : w.heap[g]? = some (.cells #[.int .i64 0, .int .i64 0, .int .i64 0, .int .i64 0, .int .i64 0, .int .i64 0, .int .i64 0, .int .i64 0] 3 (0, 0))) : HasInts w (.slice (some ⟨g, 0, none⟩) 8 8) (natsI Bk.new.B) := by
  refine ⟨_, 8, rfl, Nat.le_refl _, by unfold maxLen; omega, fun _ => ⟨g, 0, rfl, (Array.getElem?_eq_some_iff.1 hh).1, fun j x hj => ?_⟩⟩
  have hj8 : j < 8 := by have := (List.getElem?_eq_some_iff.1 hj).1; simpa [natsI, Bk.new] using this
  have hx : x = 0 := by
    have h0 : (natsI (List.replicate 8 0))[j]? = some x := hj
    unfold natsI at h0
    rw [List.map_replicate, List.getElem?_replicate, if_pos hj8] at h0
    exact (Option.some.inj h0).symm
  subst hx
  unfold World.cell?
  simp only [Nat.zero_add]
  rw [hh]
  rcases j with _ | _ | _ | _ | _ | _ | _ | _ | j <;> first | rfl | omega

set_option maxRecDepth 100000 in
set_option maxHeartbeats 1000000 in
theorem newbook_walk (w : World) : Calls Tryz.prog 13 #[] w fun e w' => (∃ v1 v2 v3, e = .returned (refV v1 v2 v3 Bk.new) ∧ RefIs w' v1 v2 v3 Bk.new) ∧ Below w.heap.size w w' := by
  go_enter Tryz.func13, Tryz.ntmps13
  have hmk := mk8
  go_wp2_with fail
  have h1 := heap_alloc_new (w.alloc (.cells #[.slice (some ⟨w.heap.size + 1, 0, none⟩) 8 8, .slice none 0 0, .slice none 0 0, .string ⟨#[]⟩, .int .i64 0] 44)) (.cells #[.int .i64 0, .int .i64 0, .int .i64 0, .int .i64 0, .int .i64 0, .int .i64 0, .int .i64 0, .int .i64 0] 3)
  rw [World.size_alloc] at h1
  refine bodyPost_ret (results_row1 rfl rfl (load_book ((Below.heap_alloc _ _ _ (by simp)).trans (heap_alloc_new w _)))) rfl ⟨⟨.slice (some ⟨w.heap.size + 1, 0, none⟩) 8 8, .slice none 0 0, .slice none 0 0, rfl, ⟨ints8 _ h1, HasInts.nil _, HasInts.nil _, fun _ => rfl, fun _ => rfl, fun a n c e => by cases e; exact ⟨_, _, h1⟩, IntRow.nil _, IntRow.nil _⟩⟩, ((Below.refl _ _).alloc (Nat.le_refl _) _).alloc (by simp) _⟩

set_option maxRecDepth 100000 in
set_option maxHeartbeats 1000000 in
theorem refwrite_bad (w : World) (a1 a2 a3 : Option Addr) (n1 m1 n2 m2 n3 m3 : Nat) (t : ByteArray) (m : Nat) (p x : Int) (h : ¬ okW p x) :
    Calls Tryz.prog 28 #[.agg #[.slice a1 n1 m1, .slice a2 n2 m2, .slice a3 n3 m3, .string t, .int .i64 (m : Nat)], .int .i64 p, .int .i64 x] w fun e w' => e = .returned (.tuple #[.agg #[.slice a1 n1 m1, .slice a2 n2 m2, .slice a3 n3 m3, .string t, .int .i64 (m : Nat)], .int .i64 1]) ∧ Below w.heap.size w w' := by
  by_cases h3 : 0 ≤ p ∧ p ≤ 7
  · have h4 : ¬ (0 ≤ x ∧ x ≤ 1000) := fun hh => h ⟨h3.1, h3.2, hh.1, hh.2⟩
    clear h
    go_enter Tryz.func28, Tryz.ntmps28
    go_wp2_with fail
    refine (refin_yes _ h3).mono ?_
    rintro _ w1 ⟨rfl, rfl⟩
    go_wp2_with fail
    refine (refin_not _ h4).mono ?_
    rintro _ w1 ⟨rfl, rfl⟩
    go_wp2_with fail
    refine bodyPost_ret (results_row2 rfl rfl (load_book (by have h := heap_alloc_new (w.alloc (.cells #[.slice a1 n1 m1, .slice a2 n2 m2, .slice a3 n3 m3, .string t, .int .i64 (m : Nat)] 44)) (.cells #[.slice a1 n1 m1, .slice a2 n2 m2, .slice a3 n3 m3, .string t, .int .i64 (m : Nat)] 44); rw [World.size_alloc] at h; exact h))) rfl ⟨rfl, ((Below.refl _ _).alloc (Nat.le_refl _) _).alloc (by simp) _⟩
  · go_enter Tryz.func28, Tryz.ntmps28
    go_wp2_with fail
    refine (refin_not _ h3).mono ?_
    rintro _ w1 ⟨rfl, rfl⟩
    go_wp2_with fail
    refine bodyPost_ret (results_row2 rfl rfl (load_book (by have h := heap_alloc_new (w.alloc (.cells #[.slice a1 n1 m1, .slice a2 n2 m2, .slice a3 n3 m3, .string t, .int .i64 (m : Nat)] 44)) (.cells #[.slice a1 n1 m1, .slice a2 n2 m2, .slice a3 n3 m3, .string t, .int .i64 (m : Nat)] 44); rw [World.size_alloc] at h; exact h))) rfl ⟨rfl, ((Below.refl _ _).alloc (Nat.le_refl _) _).alloc (by simp) _⟩

set_option maxRecDepth 100000 in
set_option maxHeartbeats 1000000 in
theorem refwrite_full (w : World) (a1 a2 a3 : Option Addr) (n1 m1 n2 m2 n3 m3 : Nat) (t : ByteArray) (m : Nat) (p x : Int) (h : okW p x) (hm : 60 ≤ m) :
    Calls Tryz.prog 28 #[.agg #[.slice a1 n1 m1, .slice a2 n2 m2, .slice a3 n3 m3, .string t, .int .i64 (m : Nat)], .int .i64 p, .int .i64 x] w fun e w' => e = .returned (.tuple #[.agg #[.slice a1 n1 m1, .slice a2 n2 m2, .slice a3 n3 m3, .string t, .int .i64 (m : Nat)], .int .i64 4]) ∧ Below w.heap.size w w' := by
  obtain ⟨b1, b2, b3, b4⟩ := h
  have q1 : decide ((60 : Int) ≤ (m : Int)) = true := decide_eq_true (by omega)
  go_enter Tryz.func28, Tryz.ntmps28
  go_wp2_with fail
  refine (refin_yes _ ⟨b1, b2⟩).mono ?_
  rintro _ w1 ⟨rfl, rfl⟩
  go_wp2_with fail
  refine (refin_yes _ ⟨b3, b4⟩).mono ?_
  rintro _ w1 ⟨rfl, rfl⟩
  go_wp2_with fail
  refine bodyPost_ret (results_row2 rfl rfl (load_book (by have h := heap_alloc_new (w.alloc (.cells #[.slice a1 n1 m1, .slice a2 n2 m2, .slice a3 n3 m3, .string t, .int .i64 (m : Nat)] 44)) (.cells #[.slice a1 n1 m1, .slice a2 n2 m2, .slice a3 n3 m3, .string t, .int .i64 (m : Nat)] 44); rw [World.size_alloc] at h; exact h))) rfl ⟨rfl, ((Below.refl _ _).alloc (Nat.le_refl _) _).alloc (by simp) _⟩

theorem natsI_snoc (l : List Nat) (x : Nat) : natsI (l ++ [x]) = natsI l ++ [(x : Int)] := by simp [natsI]
theorem natsI_length (l : List Nat) : (natsI l).length = l.length := by simp [natsI]

set_option maxRecDepth 100000 in
set_option maxHeartbeats 2000000 in
theorem refwrite_ok (w : World) (v1 v2 v3 : Value) (b : Bk) (p x : Nat) (hr : RefIs w v1 v2 v3 b) (hok : b.ok) (hp : p ≤ 7) (hx : x ≤ 1000) (hm : b.T.length < 60) :
    Calls Tryz.prog 28 #[refV v1 v2 v3 b, .int .i64 (p : Nat), .int .i64 (x : Nat)] w fun e w' => RefRes (b.put p x) #[.int .i64 0] e w' ∧ Below w.heap.size w w' := by
  obtain ⟨a1, n1, m1, rfl, e1⟩ := hr.r1.sl
  obtain ⟨a2, n2, m2, rfl, e2⟩ := hr.r2.sl
  obtain ⟨a3, n3, m3, rfl, e3⟩ := hr.r3.sl
  have hglen : b.G.length ≤ 60 := Nat.le_trans hok.waits hok.many
  have htl := Bk.text_le hok
  have HR := Lib.hid hr
  obtain ⟨t, ht⟩ : ∃ t : ByteArray, t = ⟨b.text.toArray⟩ := ⟨_, rfl⟩
  have hts : t.size ≤ 2460 := by rw [ht]; show b.text.toArray.size ≤ 2460; rw [List.size_toArray]; exact htl
  obtain ⟨m, hmm⟩ : ∃ m, m = b.T.length := ⟨_, rfl⟩
  unfold refV
  rw [← ht, ← hmm]
  have HT := Lib.hid ht
  have HM := Lib.hid hmm
  rw [← hmm] at hm
  have q1 : decide ((60 : Int) ≤ (m : Int)) = false := decide_eq_false (by omega)
  have hdp := dec_len4 (u := p) (by omega)
  have hdx := dec_len4 (u := x) (by omega)
  clear hr e1 e2 e3 ht hmm htl
  go_enter Tryz.func28, Tryz.ntmps28
  go_wp2_with fail
  refine (refin_yes _ (by omega)).mono ?_
  rintro _ w1 ⟨rfl, rfl⟩
  go_wp2_with fail
  refine (refin_yes _ (by omega)).mono ?_
  rintro _ w1 ⟨rfl, rfl⟩
  go_wp2_with fail
  have hb0 := ((Below.refl w.heap.size w).alloc (Nat.le_refl _) (.cells #[.slice a1 n1 m1, .slice a2 n2 m2, .slice a3 n3 m3, .string t, .int .i64 (m : Nat)] 44)).alloc (by simp) (.cells #[.slice none 0 0, .slice none 0 0, .slice none 0 0, .string ⟨#[]⟩, .int .i64 0] 44)
  have hh0 : ((w.alloc (.cells #[.slice a1 n1 m1, .slice a2 n2 m2, .slice a3 n3 m3, .string t, .int .i64 (m : Nat)] 44)).alloc (.cells #[.slice none 0 0, .slice none 0 0, .slice none 0 0, .string ⟨#[]⟩, .int .i64 0] 44)).heap[w.heap.size]? = some (.cells #[.slice a1 n1 m1, .slice a2 n2 m2, .slice a3 n3 m3, .string t, .int .i64 (m : Nat)] 44 (0, 0)) := by
    rw [Below.heap_alloc _ _ _ (by simp)]
    exact heap_alloc_new w _
  have hh1 := heap_alloc_new (w.alloc (.cells #[.slice a1 n1 m1, .slice a2 n2 m2, .slice a3 n3 m3, .string t, .int .i64 (m : Nat)] 44)) (.cells #[.slice none 0 0, .slice none 0 0, .slice none 0 0, .string ⟨#[]⟩, .int .i64 0] 44)
  obtain ⟨w0, hw0⟩ : ∃ x, x = (w.alloc (.cells #[.slice a1 n1 m1, .slice a2 n2 m2, .slice a3 n3 m3, .string t, .int .i64 (m : Nat)] 44)).alloc (.cells #[.slice none 0 0, .slice none 0 0, .slice none 0 0, .string ⟨#[]⟩, .int .i64 0] 44) := ⟨_, rfl⟩
  rw [← hw0] at hb0 hh0 hh1 ⊢
  rw [World.size_alloc] at hh1
  obtain ⟨g, hg⟩ : ∃ g, g = w.heap.size := ⟨_, rfl⟩
  rw [← hg] at hh0 hh1 ⊢
  have HB0 := Lib.hid hb0
  have HG := Lib.hid hg
  have H0 := Lib.hid hh0
  have H1 := Lib.hid hh1
  have hz0 : g + 1 < w0.heap.size := (Array.getElem?_eq_some_iff.1 hh1).1
  clear hw0 hb0 hg hh0 hh1
  refine (behind_any _ (natsI (b.G.map (·.1))) (p : Int) w0 (HR.out.below HB0.out).r2 (fun h => HR.out.n2 (by simpa [natsI] using h)) (by rw [natsI_length, List.length_map]; omega)).mono ?_
  rintro _ w1 ⟨⟨u2, rfl, ho2⟩, hb1⟩
  obtain ⟨l2, hl2⟩ : ∃ l2, l2 = (natsI (b.G.map (·.1))).length + 1 := ⟨_, rfl⟩
  rw [← hl2] at ho2
  obtain ⟨r2, k2, eu2, ho2'⟩ := own_some ho2 (by omega)
  subst eu2
  have HL2 := Lib.hid hl2
  clear hl2
  have H01 := Lib.hid ((hb1.block g (by omega)).trans H0.out)
  have H11 := Lib.hid ((hb1.block (g + 1) hz0).trans H1.out)
  have hgrow1 := HB0.out.trans (hb1.mono HB0.out.size)
  have c1 : w1.cell? ⟨g, 1, none⟩ = some (.slice a2 n2 m2) := by unfold World.cell?; simp only; rw [H01.out]; rfl
  have f1 : w1.frozen? ⟨g, 1, none⟩ = false := by unfold World.frozen?; simp only; rw [H01.out]; rfl
  have c2 : w1.cell? ⟨g, 2, none⟩ = some (.slice a3 n3 m3) := by unfold World.cell?; simp only; rw [H01.out]; rfl
  have HO2 := Lib.hid ho2'
  have HB1 := Lib.hid hgrow1
  have hz1 := hb1.size
  clear ho2 ho2' hb1 hgrow1
  go_wp2_with fail
  have hbs1 := HB1.out.setCell (p := ⟨g, 1, none⟩) (by have := HG.out; simp only; omega) (.slice (some ⟨r2, 0, none⟩) l2 k2)
  have hs01 := heap_setCell_same w1 g 1 _ _ (.slice (some ⟨r2, 0, none⟩) l2 k2) H01.out
  have hs11 := (heap_setCell_other w1 ⟨g, 1, none⟩ (g + 1) (.slice (some ⟨r2, 0, none⟩) l2 k2) (by simp only; omega)).trans H11.out
  have hzs := World.size_setCell w1 ⟨g, 1, none⟩ (.slice (some ⟨r2, 0, none⟩) l2 k2)
  have hoS := ownsRow_setCell_below HO2.out (a := ⟨g, 1, none⟩) (by simp only; omega) (.slice (some ⟨r2, 0, none⟩) l2 k2)
  obtain ⟨w2, hw2⟩ : ∃ x, x = w1.setCell ⟨g, 1, none⟩ (.slice (some ⟨r2, 0, none⟩) l2 k2) := ⟨_, rfl⟩
  rw [← hw2] at hbs1 hs01 hs11 hzs hoS ⊢
  have HBS1 := Lib.hid hbs1
  have HS01 : Hid (w2.heap[g]? = some (.cells #[.slice a1 n1 m1, .slice (some ⟨r2, 0, none⟩) l2 k2, .slice a3 n3 m3, .string t, .int .i64 (m : Nat)] 44 (0, 0))) := Lib.hid hs01
  have HS11 := Lib.hid hs11
  have HOS := Lib.hid hoS
  have hz2 : w0.heap.size ≤ w2.heap.size := by rw [hzs]; exact hz1
  clear hbs1 hs01 hs11 hoS hw2 c1 f1 c2 hzs
  refine (behind_any _ (natsI (b.G.map (·.2))) (x : Int) w2 (HR.out.below HBS1.out).r3 (fun h => HR.out.n3 (by simpa [natsI] using h)) (by rw [natsI_length, List.length_map]; omega)).mono ?_
  rintro _ w3 ⟨⟨u3, rfl, ho3⟩, hb3⟩
  obtain ⟨l3, hl3⟩ : ∃ l3, l3 = (natsI (b.G.map (·.2))).length + 1 := ⟨_, rfl⟩
  rw [← hl3] at ho3
  obtain ⟨r3, k3, eu3, ho3'⟩ := own_some ho3 (by omega)
  subst eu3
  have HL3 := Lib.hid hl3
  clear hl3
  have H03 := Lib.hid ((hb3.block g (by omega)).trans HS01.out)
  have H13 := Lib.hid ((hb3.block (g + 1) (by omega)).trans HS11.out)
  have HB3 := Lib.hid (HBS1.out.trans (hb3.mono HBS1.out.size))
  have HO2b := Lib.hid (ownsRow_later HOS.out hb3)
  have HO3 := Lib.hid ho3'
  have hz3 := hb3.size
  have d2 : w3.cell? ⟨g, 2, none⟩ = some (.slice a3 n3 m3) := by unfold World.cell?; simp only; rw [H03.out]; rfl
  have g2 : w3.frozen? ⟨g, 2, none⟩ = false := by unfold World.frozen?; simp only; rw [H03.out]; rfl
  clear ho3 ho3' hb3
  have hq1 : ∀ w : World, Calls Tryz.prog 31 #[.int .i64 (p : Nat)] w fun e w' => e = .returned (.string ⟨(Lib.decDigits p).toArray⟩) ∧ w' = w := fun w => (digits_walk p (by omega) w).mono fun e w' hh => ⟨hh.1, hh.2.symm⟩
  have hq2 : ∀ w : World, Calls Tryz.prog 31 #[.int .i64 (x : Nat)] w fun e w' => e = .returned (.string ⟨(Lib.decDigits x).toArray⟩) ∧ w' = w := fun w => (digits_walk x (by omega) w).mono fun e w' hh => ⟨hh.1, hh.2.symm⟩
  have HQ1 := Lib.hid hq1
  have HQ2 := Lib.hid hq2
  clear hq1 hq2
  go_upto_region 7 with (fail)
  have hbs3 := HB3.out.setCell (p := ⟨g, 2, none⟩) (by have := HG.out; simp only; omega) (.slice (some ⟨r3, 0, none⟩) l3 k3)
  have hs03 := heap_setCell_same w3 g 2 _ _ (.slice (some ⟨r3, 0, none⟩) l3 k3) H03.out
  have hs13 := (heap_setCell_other w3 ⟨g, 2, none⟩ (g + 1) (.slice (some ⟨r3, 0, none⟩) l3 k3) (by simp only; omega)).trans H13.out
  have hzs := World.size_setCell w3 ⟨g, 2, none⟩ (.slice (some ⟨r3, 0, none⟩) l3 k3)
  have hoS2 := ownsRow_setCell_below HO2b.out (a := ⟨g, 2, none⟩) (by simp only; omega) (.slice (some ⟨r3, 0, none⟩) l3 k3)
  have hoS3 := ownsRow_setCell_below HO3.out (a := ⟨g, 2, none⟩) (by simp only; omega) (.slice (some ⟨r3, 0, none⟩) l3 k3)
  obtain ⟨w4, hw4⟩ : ∃ y, y = w3.setCell ⟨g, 2, none⟩ (.slice (some ⟨r3, 0, none⟩) l3 k3) := ⟨_, rfl⟩
  rw [← hw4] at hbs3 hs03 hs13 hzs hoS2 hoS3 ⊢
  have HBS3 := Lib.hid hbs3
  have HS03 : Hid (w4.heap[g]? = some (.cells #[.slice a1 n1 m1, .slice (some ⟨r2, 0, none⟩) l2 k2, .slice (some ⟨r3, 0, none⟩) l3 k3, .string t, .int .i64 (m : Nat)] 44 (0, 0))) := Lib.hid hs03
  have HS13 := Lib.hid hs13
  have HOS2 := Lib.hid hoS2
  have HOS3 := Lib.hid hoS3
  have hz4 : w2.heap.size ≤ w4.heap.size := by rw [hzs]; exact hz3
  clear hbs3 hs03 hs13 hoS2 hoS3 hw4 d2 g2 hzs
  have i0 : w4.cell? ⟨g, 0, none⟩ = some (.slice a1 n1 m1) := by unfold World.cell?; simp only; rw [HS03.out]; rfl
  have i1 : w4.cell? ⟨g, 1, none⟩ = some (.slice (some ⟨r2, 0, none⟩) l2 k2) := by unfold World.cell?; simp only; rw [HS03.out]; rfl
  have i2 : w4.cell? ⟨g, 2, none⟩ = some (.slice (some ⟨r3, 0, none⟩) l3 k3) := by unfold World.cell?; simp only; rw [HS03.out]; rfl
  have i3 : w4.cell? ⟨g, 3, none⟩ = some (.string t) := by unfold World.cell?; simp only; rw [HS03.out]; rfl
  have i4 : w4.cell? ⟨g, 4, none⟩ = some (.int .i64 (m : Nat)) := by unfold World.cell?; simp only; rw [HS03.out]; rfl
  have hf1 : ¬ 9223372036854775807 < 2 + (Lib.decDigits p).length := by omega
  have hf2 : ¬ 9223372036854775807 < 2 + (Lib.decDigits p).length + 1 := by omega
  have hf3 : ¬ 9223372036854775807 < 2 + (Lib.decDigits p).length + 1 + (Lib.decDigits x).length := by omega
  refine wp_region_still_tail 8 (by kernel_rfl) (by kernel_rfl) ?_
  simp only [List.take_succ_cons, List.take_zero, List.drop_succ_cons, List.drop_zero]
  still_step
  still_step
  still_call (HQ1.out _)
  still_step
  still_step
  still_step
  still_call (HQ2.out _)
  still_step
  refine wpStill_nil ?_
  change wpList _ _ _ _ _ w4.drew
  go_wp2_with fail
  have hsw : (⟨#[119, 32]⟩ ++ ⟨(Lib.decDigits p).toArray⟩ ++ ⟨#[32]⟩ ++ ⟨(Lib.decDigits x).toArray⟩ : ByteArray).data.toList = wW p x := by simp [wW]
  obtain ⟨s, hs⟩ : ∃ s : ByteArray, s = (⟨#[119, 32]⟩ ++ ⟨(Lib.decDigits p).toArray⟩ ++ ⟨#[32]⟩ ++ ⟨(Lib.decDigits x).toArray⟩ : ByteArray) := ⟨_, rfl⟩
  rw [← hs] at hsw ⊢
  have hss : s.size ≤ 1000 := by
    have h1 := wW_len (p := p) (v := x) (by omega) hx
    rw [← hsw] at h1
    exact Nat.le_trans (show s.size ≤ 11 from h1) (by decide)
  have HSW := Lib.hid hsw
  clear hs hsw
  refine (refdown_walk w4.drew _ _ _ _ _ _ _ _ _ t s m hss (by omega) (by omega)).mono ?_
  rintro _ w5 ⟨rfl, hb5⟩
  have H15 := Lib.hid ((hb5.block (g + 1) (by simp only [World.size_drew]; omega)).trans HS13.out)
  have hb45 : Below w4.heap.size w4 w5 := (Below.refl w4.heap.size w4).drew.trans hb5
  have HB5 := Lib.hid (HBS3.out.trans (hb45.mono HBS3.out.size))
  have HO52 := Lib.hid (ownsRow_later HOS2.out hb45)
  have HO53 := Lib.hid (ownsRow_later HOS3.out hb45)
  have hz5 := hb45.size
  clear hb5 hb45 i0 i1 i2 i3 i4
  have e0 : w5.cell? ⟨g + 1, 0, none⟩ = some (.slice none 0 0) := by unfold World.cell?; simp only; rw [H15.out]; rfl
  have e1 : w5.cell? ⟨g + 1, 1, none⟩ = some (.slice none 0 0) := by unfold World.cell?; simp only; rw [H15.out]; rfl
  have e2 : w5.cell? ⟨g + 1, 2, none⟩ = some (.slice none 0 0) := by unfold World.cell?; simp only; rw [H15.out]; rfl
  have e3 : w5.cell? ⟨g + 1, 3, none⟩ = some (.string ⟨#[]⟩) := by unfold World.cell?; simp only; rw [H15.out]; rfl
  have e4 : w5.cell? ⟨g + 1, 4, none⟩ = some (.int .i64 0) := by unfold World.cell?; simp only; rw [H15.out]; rfl
  have z0 : w5.frozen? ⟨g + 1, 0, none⟩ = false := by unfold World.frozen?; simp only; rw [H15.out]; rfl
  have z1 : w5.frozen? ⟨g + 1, 1, none⟩ = false := by unfold World.frozen?; simp only; rw [H15.out]; rfl
  have z2 : w5.frozen? ⟨g + 1, 2, none⟩ = false := by unfold World.frozen?; simp only; rw [H15.out]; rfl
  have z3 : w5.frozen? ⟨g + 1, 3, none⟩ = false := by unfold World.frozen?; simp only; rw [H15.out]; rfl
  have z4 : w5.frozen? ⟨g + 1, 4, none⟩ = false := by unfold World.frozen?; simp only; rw [H15.out]; rfl
  have htxt : (t.data.toList ++ (lineOf s.data.toList ++ [10])) = (b.put p x).text := by rw [HSW.out, Bk.put_text, HT.out]
  have HTX := Lib.hid htxt
  clear htxt
  rw [HTX.out]
  go_wp2_with fail
  have hg := HG.out
  refine bodyPost_ret (results_row2 rfl rfl (load_book (fill5 H15.out _ _ _ _ _))) rfl ⟨⟨.slice a1 n1 m1, .slice (some ⟨r2, 0, none⟩) l2 k2, .slice (some ⟨r3, 0, none⟩) l3 k3, ?_, ?_⟩, ?_⟩
  · have hT : (((b.put p x).T.length : Nat) : Int) = (m : Int) + 1 := by
      have : (b.put p x).T.length = m + 1 := by simp [Bk.put, HM.out]
      rw [this]
      push_cast
      rfl
    unfold refV
    rw [hT]
    rfl
  · have hb6 := ((((HB5.out.setCell (p := ⟨g + 1, 0, none⟩) (by simp only; omega) (.slice a1 n1 m1)).setCell (p := ⟨g + 1, 1, none⟩) (by simp only; omega) (.slice (some ⟨r2, 0, none⟩) l2 k2)).setCell (p := ⟨g + 1, 2, none⟩) (by simp only; omega) (.slice (some ⟨r3, 0, none⟩) l3 k3)).setCell (p := ⟨g + 1, 3, none⟩) (by simp only; omega) (.string ⟨(b.put p x).text.toArray⟩)).setCell (p := ⟨g + 1, 4, none⟩) (by simp only; omega) (.int .i64 ((m : Int) + 1))
    have ho2 := ownsRow_setCell_below (ownsRow_setCell_below (ownsRow_setCell_below (ownsRow_setCell_below (ownsRow_setCell_below HO52.out (a := ⟨g + 1, 0, none⟩) (by simp only; omega) (.slice a1 n1 m1)) (a := ⟨g + 1, 1, none⟩) (by simp only; omega) (.slice (some ⟨r2, 0, none⟩) l2 k2)) (a := ⟨g + 1, 2, none⟩) (by simp only; omega) (.slice (some ⟨r3, 0, none⟩) l3 k3)) (a := ⟨g + 1, 3, none⟩) (by simp only; omega) (.string ⟨(b.put p x).text.toArray⟩)) (a := ⟨g + 1, 4, none⟩) (by simp only; omega) (.int .i64 ((m : Int) + 1))
    have ho3 := ownsRow_setCell_below (ownsRow_setCell_below (ownsRow_setCell_below (ownsRow_setCell_below (ownsRow_setCell_below HO53.out (a := ⟨g + 1, 0, none⟩) (by simp only; omega) (.slice a1 n1 m1)) (a := ⟨g + 1, 1, none⟩) (by simp only; omega) (.slice (some ⟨r2, 0, none⟩) l2 k2)) (a := ⟨g + 1, 2, none⟩) (by simp only; omega) (.slice (some ⟨r3, 0, none⟩) l3 k3)) (a := ⟨g + 1, 3, none⟩) (by simp only; omega) (.string ⟨(b.put p x).text.toArray⟩)) (a := ⟨g + 1, 4, none⟩) (by simp only; omega) (.int .i64 ((m : Int) + 1))
    refine ⟨HR.out.r1.below hb6, ?_, ?_, fun h => ?_, fun h => ?_, HR.out.i1.below hb6, IntRow.of_own ho2, IntRow.of_own ho3⟩
    · have hL : natsI ((b.put p x).G.map (·.1)) = natsI (b.G.map (·.1)) ++ [(p : Int)] := by simp [Bk.put, natsI]
      rw [hL]
      exact (HasInts.of_own ho2).2
    · have hL : natsI ((b.put p x).G.map (·.2)) = natsI (b.G.map (·.2)) ++ [(x : Int)] := by simp [Bk.put, natsI]
      rw [hL]
      exact (HasInts.of_own ho3).2
    · simp [Bk.put] at h
    · simp [Bk.put] at h
  · exact ((((HB5.out.setCell (p := ⟨g + 1, 0, none⟩) (by simp only; omega) (.slice a1 n1 m1)).setCell (p := ⟨g + 1, 1, none⟩) (by simp only; omega) (.slice (some ⟨r2, 0, none⟩) l2 k2)).setCell (p := ⟨g + 1, 2, none⟩) (by simp only; omega) (.slice (some ⟨r3, 0, none⟩) l3 k3)).setCell (p := ⟨g + 1, 3, none⟩) (by simp only; omega) (.string ⟨(b.put p x).text.toArray⟩)).setCell (p := ⟨g + 1, 4, none⟩) (by simp only; omega) (.int .i64 ((m : Int) + 1))

end Go.Proofs.YtegibgflhhdddaaGreatDoor
