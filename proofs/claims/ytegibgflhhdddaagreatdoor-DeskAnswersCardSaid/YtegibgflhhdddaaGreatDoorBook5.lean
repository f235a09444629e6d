/- The book's methods: Write at whatever numbers, Waits, Text, Values. -/
import Derived.Test.YtegibgflhhdddaaGreatDoorBook4
import Derived.StillTailTactics
namespace Go.Proofs.YtegibgflhhdddaaGreatDoor
open Go.RowKit

theorem errV_zero : errV 0 = .nilIface := rfl

set_option maxRecDepth 100000 in
set_option maxHeartbeats 1000000 in
theorem bwrite_walk (w : World) (B g : Nat) (b : Bk) (p x : Int) (hb : BookIs w g b) (hB : B ≤ g) (hp : Pow B w) (hok : b.ok) :
    Calls Tryz.prog 36 #[.pointer (some ⟨g, 0, none⟩), .int .i64 p, .int .i64 x] w fun e w' => e = .returned (errV (b.writeE p x : Nat)) ∧ BookIs w' g (b.write p x) ∧ BkFrame w w' g := by
  by_cases h1 : okW p x
  · by_cases h2 : b.T.length = 60
    · have he : b.writeE p x = 4 := by unfold Bk.writeE; rw [if_pos h1, if_pos h2]
      have hw : b.write p x = b := by unfold Bk.write; rw [he]; rfl
      rw [he, hw]
      have HB := Lib.hid hb
      have hmany := hb.many
      have hfree := hb.free 11
      have hq : ((b.T.length : Int) == 60) = true := beq_iff_eq.2 (by omega)
      obtain ⟨a1, a2, a3, a4⟩ := h1
      clear hb he hw
      go_enter Tryz.func36, Tryz.ntmps36
      go_wp2_with fail
      refine (within_yes _ (by omega)).mono ?_
      rintro _ w1 ⟨rfl, rfl⟩
      go_wp2_with fail
      refine (within_yes _ (by omega)).mono ?_
      rintro _ w1 ⟨rfl, rfl⟩
      go_wp2_with fail
      go_ret
      exact ⟨rfl, HB.out, BkFrame.refl _ _⟩
    · have he : b.writeE p x = 0 := by unfold Bk.writeE; rw [if_pos h1, if_neg h2]
      have hw : b.write p x = b.put p.toNat x.toNat := by unfold Bk.write; rw [he]; rfl
      rw [he, hw]
      obtain ⟨a1, a2, a3, a4⟩ := h1
      have e1 : p = (p.toNat : Int) := by omega
      have e2 : x = (x.toNat : Int) := by omega
      rw [e1, e2]
      simp only [Int.toNat_natCast]
      refine bwrite_ok w B g b p.toNat x.toNat hb hB hp hok (by omega) (by omega) (by have := hok.many; omega)
  · have he : b.writeE p x = 1 := by unfold Bk.writeE; rw [if_neg h1]
    have hw : b.write p x = b := by unfold Bk.write; rw [he]; rfl
    rw [he, hw]
    have HB := Lib.hid hb
    clear hb he hw
    by_cases h3 : 0 ≤ p ∧ p ≤ 7
    · have h4 : ¬ (0 ≤ x ∧ x ≤ 1000) := fun h => h1 ⟨h3.1, h3.2, h.1, h.2⟩
      go_enter Tryz.func36, Tryz.ntmps36
      go_wp2_with fail
      refine (within_yes _ h3).mono ?_
      rintro _ w1 ⟨rfl, rfl⟩
      go_wp2_with fail
      refine (within_not _ h4).mono ?_
      rintro _ w1 ⟨rfl, rfl⟩
      go_wp2_with fail
      go_ret
      exact ⟨rfl, HB.out, BkFrame.refl _ _⟩
    · go_enter Tryz.func36, Tryz.ntmps36
      go_wp2_with fail
      refine (within_not _ h3).mono ?_
      rintro _ w1 ⟨rfl, rfl⟩
      go_wp2_with fail
      go_ret
      exact ⟨rfl, HB.out, BkFrame.refl _ _⟩

theorem BookAt.grp_shape {w : World} {g : Nat} {B : List Nat} {G : List (Nat × Nat)} {txt : List UInt8} {m : Nat} (h : BookAt w g B G txt m) : ∃ va cap, w.cell? ⟨g, 8, none⟩ = some (.slice va G.length cap) ∧ w.ownsRow (g + 1) 94 3 (.slice va G.length cap) G.length (putsV G) := by
  obtain ⟨v, hv, hown⟩ := h.grp
  rcases hown.2 with ⟨rfl, h0⟩ | ⟨g', cap', cur, rfl, -⟩
  · exact ⟨none, 0, by rw [h0]; exact hv, by rw [h0] at hown ⊢; exact hown⟩
  · exact ⟨_, _, hv, hown⟩

theorem waits_walk (w : World) (g : Nat) (b : Bk) (hb : BookIs w g b) :
    Calls Tryz.prog 40 #[.pointer (some ⟨g, 0, none⟩)] w fun e w' => e = .returned (.int .i64 (b.G.length : Nat)) ∧ w = w' := by
  obtain ⟨va, cap, hv, -⟩ := hb.grp_shape
  obtain ⟨n, hn⟩ : ∃ n, n = b.G.length := ⟨_, rfl⟩
  rw [← hn] at hv ⊢
  clear hn hb
  go_enter Tryz.func40, Tryz.ntmps40
  go_wp2_with fail
  go_ret
  exact ⟨rfl, rfl⟩

theorem text_walk (w : World) (g : Nat) (b : Bk) (hb : BookIs w g b) :
    Calls Tryz.prog 41 #[.pointer (some ⟨g, 0, none⟩)] w fun e w' => e = .returned (.string ⟨b.text.toArray⟩) ∧ BookIs w' g b ∧ BkFrame w w' g := by
  have HB := Lib.hid hb
  clear hb
  go_enter Tryz.func41, Tryz.ntmps41
  go_wp2_with fail
  refine (bld_str w 51 12 (g + 1) g 9 b.text HB.out.bld).mono ?_
  rintro _ w1 ⟨rfl, hb1, hf1⟩
  have h := HB.out.built hf1 hb1
  have H := Lib.hid h
  clear h hb1 hf1
  go_wp2_with fail
  go_ret
  exact ⟨rfl, H.out.1, H.out.2⟩

theorem values_walk (w : World) (g : Nat) (b : Bk) (hb : BookIs w g b) :
    Calls Tryz.prog 39 #[.pointer (some ⟨g, 0, none⟩)] w fun e w' => (∃ v, e = .returned v ∧ w'.ownsRow w.heap.size 3 1 v 8 (ints (b.B.map fun (n : Nat) => (n : Int)))) ∧ Below w.heap.size w w' := by
  have HB := Lib.hid hb
  clear hb
  go_enter Tryz.func39, Tryz.ntmps39
  go_wp2_with fail
  obtain ⟨L, hL⟩ : ∃ L : List Int, L = b.B.map fun (n : Nat) => (n : Int) := ⟨_, rfl⟩
  have hlen : L.length = 8 := by rw [hL, List.length_map]; exact HB.out.len
  refine (Tryz.slices_Clone_int g 0 8 8 L w (by omega) (by omega) (fun j hj => ?_)).mono ?_
  · rw [Nat.zero_add]
    have hjB : j < b.B.length := by rw [HB.out.len]; omega
    have h := HB.out.cells j b.B[j] (List.getElem?_eq_getElem hjB)
    rw [h]
    simp [hL, List.getD, hjB]
  rintro _ w1 ⟨v, rfl, hown, -, hb1⟩
  rw [List.take_of_length_le (by omega)] at hown
  have HO := Lib.hid hown
  have HB1 := Lib.hid hb1
  rw [hL] at HO
  clear hown hb1 hlen hL
  go_wp2_with fail
  go_ret
  exact ⟨⟨v, rfl, HO.out⟩, HB1.out⟩

/-- cells of the group -/
theorem group_cells {w : World} {base : Nat} {r n cap : Nat} {G : List (Nat × Nat)} (h : w.ownsRow base 94 3 (.slice (some ⟨r, 0, none⟩) n cap) n (putsV G)) {i : Nat} {q : Nat × Nat} (hi : i < n) (hq : G[i]? = some q) :
    w.cell? ⟨r, i * 3, none⟩ = some (.int .i64 0) ∧ w.cell? ⟨r, i * 3 + 1, none⟩ = some (.int .i64 (q.1 : Nat)) ∧ w.cell? ⟨r, i * 3 + 2, none⟩ = some (.int .i64 (q.2 : Nat)) := by
  obtain ⟨h1, h2, h3⟩ := putsV_at G i q hq
  exact ⟨(h.cellAt (i * 3) (by omega)).trans h3, (h.cellAt (i * 3 + 1) (by omega)).trans h1, (h.cellAt (i * 3 + 2) (by omega)).trans h2⟩

theorem applyG_take {B : List Nat} {G : List (Nat × Nat)} {i : Nat} {q : Nat × Nat} (h : G[i]? = some q) : applyG B (G.take (i + 1)) = (applyG B (G.take i)).set q.1 q.2 := by
  unfold applyG
  rw [List.take_succ_eq_append_getElem (List.getElem?_eq_some_iff.1 h).1, List.foldl_append, (List.getElem?_eq_some_iff.1 h).2]
  rfl

set_option maxRecDepth 100000 in
set_option maxHeartbeats 2000000 in
theorem bdo_ok (w : World) (B g : Nat) (b : Bk) (hb : BookIs w g b) (hB : B ≤ g) (hp : Pow B w) (hok : b.ok) (hm : b.T.length < 60) :
    Calls Tryz.prog 37 #[.pointer (some ⟨g, 0, none⟩)] w fun e w' => e = .returned (.tuple #[.int .i64 (b.G.length : Nat), .nilIface]) ∧ BookIs w' g b.close ∧ BkFrame w w' g := by
  have HB := Lib.hid hb
  have HP := Lib.hid hp
  obtain ⟨va, cap, hv, -⟩ := hb.grp_shape
  obtain ⟨n, hn⟩ : ∃ n, n = b.G.length := ⟨_, rfl⟩
  rw [← hn] at hv ⊢
  have HN := Lib.hid hn
  have hn60 : n < 60 := by have := hok.waits; omega
  have hmany := hb.many
  have hq : ((b.T.length : Int) == 60) = false := beq_eq_false_iff_ne.2 (by omega)
  have hglt := hb.lt
  clear hb hp hn
  go_enter Tryz.func37, Tryz.ntmps37
  go_wp2_with fail
  go_loopw [23] (fun ix wr => ∃ i : Nat, i ≤ n ∧ ix = .int .i64 i ∧ BookAt wr g (applyG b.B (b.G.take i)) b.G b.text b.T.length ∧ BkFrame w wr g ∧ wr.cell? ⟨g, 8, none⟩ = some (.slice va n cap)) (fun ix _ => n - (intOf ix).toNat)
  case atStart => exact ⟨0, Nat.zero_le _, rfl, HB.out, BkFrame.refl _ _, hv⟩
  case round =>
    obtain ⟨i, hi, rfl, hr, hf, h8⟩ := hrel
    have HR := Lib.hid hr
    have HF := Lib.hid hf
    have H8 := Lib.hid h8
    have hglr := hr.lt
    have hfree := hr.free
    clear hr hf h8
    by_cases hlt : i < n
    · have q1 : decide (i < n) = true := decide_eq_true hlt
      obtain ⟨q, hqq⟩ : ∃ q, b.G[i]? = some q := ⟨_, List.getElem?_eq_getElem (by have := HN.out; omega)⟩
      have hqr := hok.grp q (List.mem_of_getElem? hqq)
      have hown : wr.ownsRow (g + 1) 94 3 (.slice va n cap) n (putsV b.G) := by
        obtain ⟨va', cap', e1, e2⟩ := HR.out.grp_shape
        rw [H8.out, ← HN.out] at e1
        cases e1
        rw [← HN.out] at e2
        exact e2
      obtain ⟨r, cap2, ev, hrr, hrw⟩ := hown.form (by omega)
      cases ev
      obtain ⟨c0, c1, c2⟩ := group_cells hown hlt hqq
      have HQQ := Lib.hid (applyG_take (B := b.B) hqq)
      have hfg := hfree q.1
      have hqlt := hqr.1
      obtain ⟨x0, hx0⟩ : ∃ x0, wr.cell? ⟨g, q.1, none⟩ = some (.int .i64 x0) := by
        obtain ⟨n0, hn0⟩ : ∃ n0, (applyG b.B (b.G.take i))[q.1]? = some n0 := ⟨_, List.getElem?_eq_getElem (by rw [applyG_length, hok.len]; omega)⟩
        exact ⟨_, HR.out.cells q.1 n0 hn0⟩
      obtain ⟨qp, qv⟩ := q
      simp only at c0 c1 c2 hfg hqlt hx0
      clear hown hqq hfree
      go_upto_region 7 with (fail)
      have hal := (Below.refl wr.heap.size wr).alloc (Nat.le_refl _) (.cells #[.int .i64 0, .int .i64 (qp : Nat), .int .i64 (qv : Nat)] 94)
      have hnew := heap_alloc_new wr (.cells #[.int .i64 0, .int .i64 (qp : Nat), .int .i64 (qv : Nat)] 94)
      obtain ⟨w0, hw0⟩ : ∃ x, x = wr.alloc (.cells #[.int .i64 0, .int .i64 (qp : Nat), .int .i64 (qv : Nat)] 94) := ⟨_, rfl⟩
      rw [← hw0] at hal hnew ⊢
      have d1 : w0.cell? ⟨wr.heap.size, 1, none⟩ = some (.int .i64 (qp : Nat)) := by unfold World.cell?; simp only; rw [hnew]; rfl
      have d2 : w0.cell? ⟨wr.heap.size, 2, none⟩ = some (.int .i64 (qv : Nat)) := by unfold World.cell?; simp only; rw [hnew]; rfl
      have hfw := (hal.frozen (p := ⟨g, qp, none⟩) hglr).trans hfg
      have hxw := (hal.cell (p := ⟨g, qp, none⟩) hglr).trans hx0
      have hald := hal.drew
      have hv1 := (HR.out.later hald).valued (i := qp) (by omega) qv
      have hf1 := (HF.out.trans (HR.out.frame hald)).trans hv1.2
      have h81 : (w0.drew.setCell ⟨g, qp, none⟩ (.int .i64 (qv : Nat))).cell? ⟨g, 8, none⟩ = some (.slice (some ⟨r, 0, none⟩) n cap) :=
        (World.cell?_setCell_other _ _ _ _ (by first | (simp; done) | (simp; omega))).trans ((hald.cell (p := ⟨g, 8, none⟩) hglr).trans H8.out)
      have HV1 := Lib.hid hv1.1
      have HF1 := Lib.hid hf1
      have H81 := Lib.hid h81
      clear hal hald hv1 hf1 h81 hnew hw0 c0 c1 c2 hfg hx0
      have hq0 : (0 : Int) ≤ (qp : Int) := Int.natCast_nonneg _
      have hq8 : (qp : Int) < 8 := by omega
      go_still_tail 8, (by kernel_rfl)
      change wpList _ _ _ _ _ w0.drew
      go_wp2_with fail
      go_roundw
      case rel => exact ⟨i + 1, by omega, by go_num, by rw [HQQ.out]; exact HV1.out, HF1.out, H81.out⟩
      case measure => simp [intOf]; omega
    · obtain rfl : i = n := by omega
      have q1 : decide (i < i) = false := decide_eq_false hlt
      have hfree8 := hfree 8
      clear hfree
      have hc1 := HR.out.cleared
      rw [List.take_of_length_le (by have := HN.out; omega)] at hc1
      have HC1 : Hid (BookIs (wr.setCell ⟨g, 8, none⟩ (.slice none 0 0)) g ⟨applyG b.B b.G, [], b.T⟩) := Lib.hid hc1.1
      have HF1 := Lib.hid (HF.out.trans hc1.2)
      have h8 := H8.out
      clear hc1
      go_wp2_with fail
      refine (down_walk _ B g ⟨applyG b.B b.G, [], b.T⟩ ⟨#[100]⟩ (.slice none 0 0) [] HC1.out hB (HP.out.on (HF1.out.below B hB)) (HasInts.nil _) (by simp) (by simp) (by decide) (Nat.le_trans (show b.text.length ≤ 2460 from Bk.text_le hok) (by decide)) (by simp only; omega)).mono ?_
      rintro _ w5 ⟨rfl, hb5, hf5⟩
      have HB5 : Hid (BookIs w5 g b.close) := Lib.hid hb5
      have HF5 := Lib.hid (HF1.out.trans hf5)
      clear hb5 hf5
      go_wp2_with fail
      go_ret2
      exact ⟨rfl, HB5.out, HF5.out⟩

set_option maxRecDepth 100000 in
theorem bdo_full (w : World) (g : Nat) (b : Bk) (hb : BookIs w g b) (hm : b.T.length = 60) :
    Calls Tryz.prog 37 #[.pointer (some ⟨g, 0, none⟩)] w fun e w' => e = .returned (.tuple #[.int .i64 0, .iface 80 (.int .i64 4)]) ∧ w = w' := by
  have hmany := hb.many
  have hq : ((b.T.length : Int) == 60) = true := beq_iff_eq.2 (by omega)
  clear hb
  go_enter Tryz.func37, Tryz.ntmps37
  go_wp2_with fail
  go_ret2
  exact ⟨rfl, rfl⟩

theorem bdo_walk (w : World) (B g : Nat) (b : Bk) (hb : BookIs w g b) (hB : B ≤ g) (hp : Pow B w) (hok : b.ok) :
    Calls Tryz.prog 37 #[.pointer (some ⟨g, 0, none⟩)] w fun e w' => e = .returned (.tuple #[.int .i64 (b.doneN : Nat), errV (b.doneE : Nat)]) ∧ BookIs w' g b.done ∧ BkFrame w w' g := by
  by_cases h : b.T.length = 60
  · have e1 : b.doneN = 0 := by unfold Bk.doneN; rw [if_pos h]
    have e2 : b.doneE = 4 := by unfold Bk.doneE; rw [if_pos h]
    have e3 : b.done = b := by unfold Bk.done; rw [if_pos h]
    rw [e1, e2, e3]
    exact (bdo_full w g b hb h).mono fun e w' ⟨h1, h2⟩ => by subst h2; exact ⟨h1, hb, BkFrame.refl _ _⟩
  · have e1 : b.doneN = b.G.length := by unfold Bk.doneN; rw [if_neg h]
    have e2 : b.doneE = 0 := by unfold Bk.doneE; rw [if_neg h]
    have e3 : b.done = b.close := by unfold Bk.done; rw [if_neg h]
    rw [e1, e2, e3]
    exact bdo_ok w B g b hb hB hp hok (by have := hok.many; omega)

end Go.Proofs.YtegibgflhhdddaaGreatDoor
