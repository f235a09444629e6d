/- The desk's verbs. -/
import Derived.Test.YtegibgflhhdddaaGreatDoorDesk1
import Derived.StillTailTactics
import Derived.Deep.RegionHeld3
import Derived.Lib.ItoaLen
namespace Go.Proofs.YtegibgflhhdddaaGreatDoor
open Go.RowKit Go.Shelf

theorem bytes_join (a b : List UInt8) : (⟨a.toArray⟩ : ByteArray) ++ ⟨b.toArray⟩ = ⟨(a ++ b).toArray⟩ := ByteArray.ext (by simp)

/-- the handle of the type error, from block B on untouched -/
def Hand (B : Nat) (w : World) : Prop := ∀ w', Below B w w' → Handled w'
theorem Hand.on {B : Nat} {w w1 : World} (h : Hand B w) (hb : Below B w w1) : Hand B w1 := fun w' h' => h w' (hb.trans h')
theorem Hand.here {B : Nat} {w : World} (h : Hand B w) : Handled w := h w (Below.refl _ _)

structure DeskAt (w : World) (gd g : Nat) (b : Bk) : Prop where
  box : Boxed w gd 27 (.pointer (some ⟨g, 0, none⟩))
  book : BookIs w g b

structure DkFrame (w w' : World) (gd g g' : Nat) : Prop where
  size : w.heap.size ≤ w'.heap.size
  below : ∀ B, B ≤ g → B ≤ gd → Below B w w'
  blocks : ∀ x, x < w.heap.size → ¬ BkOwn w g x → x ≠ gd → w'.heap[x]? = w.heap[x]?
  own : ∀ x, BkOwn w' g' x → BkOwn w g x ∨ w.heap.size ≤ x
  le : g ≤ g'

theorem DkFrame.trans {w1 w2 w3 : World} {gd g1 g2 g3 : Nat} (h : DkFrame w1 w2 gd g1 g2) (k : DkFrame w2 w3 gd g2 g3) : DkFrame w1 w3 gd g1 g3 := by
  refine ⟨Nat.le_trans h.size k.size, fun B h1 h2 => (h.below B h1 h2).trans (k.below B (Nat.le_trans h1 h.le) h2), fun x hx ho hd => ?_, fun x hx => ?_, Nat.le_trans h.le k.le⟩
  · rw [k.blocks x (Nat.lt_of_lt_of_le hx h.size) (fun e => ?_) hd, h.blocks x hx ho hd]
    rcases h.own x e with e | e
    · exact ho e
    · omega
  · rcases k.own x hx with e | e
    · exact h.own x e
    · exact .inr (Nat.le_trans h.size e)

theorem DeskAt.far {w : World} {gd g : Nat} {b : Bk} (h : DeskAt w gd g b) : ¬ BkOwn w g gd := h.book.far_own h.box (by decide) (by decide) (by decide)
theorem DeskAt.booked {w w' : World} {gd g : Nat} {b b' : Bk} (h : DeskAt w gd g b) (k : BookIs w' g b') (f : BkFrame w w' g) : DeskAt w' gd g b' ∧ DkFrame w w' gd g g :=
  ⟨⟨(f.blocks gd h.box.lt h.far).trans h.box, k⟩, f.size, fun B h1 _ => f.below B h1, fun x hx ho _ => f.blocks x hx ho, f.own, Nat.le_refl _⟩
theorem DeskAt.later {w w' : World} {gd g : Nat} {b : Bk} (h : DeskAt w gd g b) (hb : Below w.heap.size w w') : DeskAt w' gd g b ∧ DkFrame w w' gd g g := h.booked (h.book.later hb) (h.book.frame hb)

/-- what a verb leaves -/
def DRes (w w' : World) (gd g : Nat) (b' : Bk) : Prop := ∃ g', DeskAt w' gd g' b' ∧ DkFrame w w' gd g g'
theorem DRes.later {w w1 w2 : World} {gd g : Nat} {b' : Bk} (h : DRes w w1 gd g b') (hb : Below w1.heap.size w1 w2) : DRes w w2 gd g b' := by
  obtain ⟨g', h1, h2⟩ := h
  obtain ⟨k1, k2⟩ := h1.later hb
  exact ⟨g', k1, h2.trans k2⟩
theorem DRes.mk' {w w' : World} {gd g : Nat} {b' : Bk} (h : DeskAt w' gd g b' ∧ DkFrame w w' gd g g) : DRes w w' gd g b' := ⟨g, h.1, h.2⟩

theorem writeE_le (b : Bk) (p x : Int) : b.writeE p x ≤ 7 := by
  unfold Bk.writeE
  split
  · split <;> omega
  · omega
theorem doneE_le (b : Bk) : b.doneE ≤ 7 := by
  unfold Bk.doneE
  split <;> omega

set_option maxRecDepth 100000 in
set_option maxHeartbeats 2000000 in
theorem dwrite_walk (w : World) (B gd g : Nat) (b : Bk) (a : Option Addr) (c : Nat) (p x : Nat) (h : DeskAt w gd g b) (hl : HasInts w (.slice a 2 c) [(p : Int), (x : Int)]) (hB : B ≤ g) (hd : B ≤ gd) (hE : Env B w) (hH : Hand B w) (hok : b.ok) :
    Calls Tryz.prog 18 #[.pointer (some ⟨gd, 0, none⟩), .slice a 2 c] w fun e w' => e = .returned (.string ⟨(tell (b.writeE p x)).toArray⟩) ∧ DRes w w' gd g (b.write p x) := by
  have H := Lib.hid h
  have HE := Lib.hid hE
  have HH := Lib.hid hH
  have hc0 := h.box.cell
  obtain ⟨rb, ro, rfl, -, hcp⟩ := hl.liesT (j := 0) (x := (p : Int)) rfl
  obtain ⟨rb', ro', e', -, hcx⟩ := hl.liesT (j := 1) (x := (x : Int)) rfl
  cases e'
  rw [Nat.add_zero] at hcp
  have HEV := writeE_le b p x
  clear h hE hH hl
  go_enter Tryz.func18, Tryz.ntmps18
  go_wp2_with fail
  go_still_tail 10, (by kernel_rfl)
  change wpList _ _ _ _ _ w.drew
  go_wp2_with fail
  refine (bwrite_walk _ B g b p x (H.out.book.later (Below.refl w.heap.size w).drew) hB (HE.out.on (Below.refl B w).drew).pow hok).mono ?_
  rintro _ w7 ⟨rfl, hbk7, hf7⟩
  have hD0 := H.out.later (Below.refl w.heap.size w).drew
  have hD1 := hD0.1.booked hbk7 hf7
  have HD7 := Lib.hid (show DRes w w7 gd g (b.write p x) from ⟨g, hD1.1, hD0.2.trans hD1.2⟩)
  have HW7 := Lib.hid ((Below.refl B w).drew.trans (hf7.below B hB))
  clear hbk7 hf7 hD0 hD1
  go_wp2_with fail
  refine (dtold_walk _ w7 (HH.out w7 HW7.out) HEV).mono ?_
  rintro _ w8 ⟨rfl, hb8⟩
  have HD8 := Lib.hid (HD7.out.later hb8)
  clear hb8
  go_wp2_with fail
  go_ret
  exact ⟨rfl, HD8.out⟩

set_option maxRecDepth 100000 in
set_option maxHeartbeats 2000000 in
theorem ddone_walk (w : World) (B gd g : Nat) (b : Bk) (u : Value) (h : DeskAt w gd g b) (hB : B ≤ g) (hd : B ≤ gd) (hE : Env B w) (hH : Hand B w) (hok : b.ok) :
    Calls Tryz.prog 19 #[.pointer (some ⟨gd, 0, none⟩), u] w fun e w' => e = .returned (.string ⟨(b.ansT .dos).toArray⟩) ∧ DRes w w' gd g b.done := by
  have H := Lib.hid h
  have HE := Lib.hid hE
  have HH := Lib.hid hH
  have hc0 := h.box.cell
  have HEV := doneE_le b
  have HNN := Lib.hid (show b.doneN ≤ 60 by unfold Bk.doneN; split; omega; exact Nat.le_trans hok.waits hok.many)
  clear h hE hH
  go_enter Tryz.func19, Tryz.ntmps19
  go_wp2_with fail
  refine (bdo_walk w B g b H.out.book hB HE.out.pow hok).mono ?_
  rintro _ w7 ⟨rfl, hbk7, hf7⟩
  have HD7 := Lib.hid (DRes.mk' (H.out.booked hbk7 hf7))
  have HW7 := Lib.hid (hf7.below B hB)
  clear hbk7 hf7
  by_cases h0 : b.doneE = 0
  · have hev : errV (b.doneE : Nat) = .nilIface := by rw [h0]; rfl
    have HT := Lib.hid (show b.ansT .dos = [100, 105, 100, 32] ++ Lib.decDigits b.doneN from if_pos h0)
    obtain ⟨m, hm⟩ : ∃ m, m = b.doneN := ⟨_, rfl⟩
    have hm60 : m ≤ 60 := by rw [hm]; exact HNN.out
    have hdl := Lib.nDigits_le20 m (by omega)
    rw [← Lib.decDigits_length] at hdl
    rw [hev, ← hm]
    rw [← hm] at HT
    clear hev hm h0
    go_wp2_with fail
    refine (itoaN_walk m w7 B (HE.out.on HW7.out).pow (by omega)).mono ?_
    rintro _ w8 ⟨rfl, hb8⟩
    have HD8 := Lib.hid (HD7.out.later hb8)
    obtain ⟨z, hz⟩ := named (Lib.decDigits m)
    have hzl : z.size ≤ 20 := by rw [hz]; exact hdl
    rw [← hz]
    have HZ := Lib.hid hz
    clear hb8 hz
    go_wp2_with fail
    go_ret
    refine ⟨?_, HD8.out⟩
    rw [HT.out, HZ.out, ← bytes_join]
    rfl
  · obtain ⟨pv, hev⟩ : ∃ pv, errV (b.doneE : Nat) = .iface 80 pv := ⟨_, if_neg (by omega)⟩
    have HT := Lib.hid (show b.ansT .dos = tell b.doneE from if_neg h0)
    have HEQ := Lib.hid hev
    rw [hev]
    clear hev h0
    go_wp2_with fail
    rw [← HEQ.out]
    refine (dtold_walk _ w7 (HH.out w7 HW7.out) HEV).mono ?_
    rintro _ w8 ⟨rfl, hb8⟩
    have HD8 := Lib.hid (HD7.out.later hb8)
    clear hb8
    go_wp2_with fail
    go_ret
    rw [HT.out]
    exact ⟨rfl, HD8.out⟩

set_option maxRecDepth 100000 in
theorem dwaits_walk (w : World) (B gd g : Nat) (b : Bk) (u : Value) (h : DeskAt w gd g b) (hB : B ≤ g) (hE : Env B w) (hok : b.ok) :
    Calls Tryz.prog 21 #[.pointer (some ⟨gd, 0, none⟩), u] w fun e w' => e = .returned (.string ⟨(Lib.decDigits b.G.length).toArray⟩) ∧ DRes w w' gd g b := by
  have H := Lib.hid h
  have HE := Lib.hid hE
  have hc0 := h.box.cell
  have HG := Lib.hid (show b.G.length ≤ 60 from Nat.le_trans hok.waits hok.many)
  clear h hE
  go_enter Tryz.func21, Tryz.ntmps21
  go_wp2_with fail
  refine (waits_walk w g b H.out.book).mono ?_
  rintro _ w7 ⟨rfl, rfl⟩
  go_wp2_with fail
  refine (itoaN_walk b.G.length w B HE.out.pow (by have := HG.out; omega)).mono ?_
  rintro _ w8 ⟨rfl, hb8⟩
  have HD8 := Lib.hid (DRes.mk' (H.out.later hb8))
  clear hb8
  go_wp2_with fail
  go_ret
  exact ⟨rfl, HD8.out⟩

set_option maxRecDepth 100000 in
set_option maxHeartbeats 2000000 in
theorem dread_walk (w : World) (B gd g : Nat) (b : Bk) (a : Option Addr) (c : Nat) (p : Nat) (h : DeskAt w gd g b) (hl : HasInts w (.slice a 1 c) [(p : Int)]) (hB : B ≤ g) (hE : Env B w) (hH : Hand B w) (hw : B ≤ w.heap.size) (hok : b.ok) :
    Calls Tryz.prog 20 #[.pointer (some ⟨gd, 0, none⟩), .slice a 1 c] w fun e w' => e = .returned (.string ⟨(b.ansT (.read p)).toArray⟩) ∧ DRes w w' gd g b := by
  have H := Lib.hid h
  have HE := Lib.hid hE
  have HH := Lib.hid hH
  have hc0 := h.box.cell
  obtain ⟨rb, ro, rfl, hrb, hcp⟩ := hl.liesT (j := 0) (x := (p : Int)) rfl
  rw [Nat.add_zero] at hcp
  have HCP := Lib.hid hcp
  clear h hE hH hl hcp
  go_enter Tryz.func20, Tryz.ntmps20
  go_wp2_with fail
  refine (values_walk w g b H.out.book).mono ?_
  rintro _ w7 ⟨⟨vv, rfl, ho7⟩, hb7⟩
  have hcp7 := (hb7.cell (p := ⟨rb, ro, none⟩) hrb).trans HCP.out
  have HD7 := Lib.hid (DRes.mk' (H.out.later hb7))
  have HW7 := Lib.hid (hb7.mono hw)
  have hv7 := (HasInts.of_own ho7).2
  obtain ⟨y, cap, cur, fr, rfl, hy⟩ : ∃ y cap cur fr, vv = .slice (some ⟨y, 0, none⟩) 8 cap ∧ w7.heap[y]? = some (.cells cur 3 fr) := by
    rcases ho7.2 with ⟨-, h0⟩ | ⟨y, cap, cur, rfl, -, hy, -⟩
    · exact absurd h0 (by decide)
    · exact ⟨y, cap, cur, _, rfl, hy⟩
  clear ho7 hb7 hy
  by_cases h8 : 8 ≤ p
  · have q1 : decide ((8 : Int) ≤ (p : Int)) = true := decide_eq_true (by omega)
    have HT := Lib.hid (show b.ansT (.read p) = tell 1 from if_pos h8)
    have HDT := Lib.hid (dtold_walk 1 w7 (HH.out w7 HW7.out) (by decide))
    rw [show errV ((1 : Nat) : Int) = .iface 80 (.int .i64 1) from rfl] at HDT
    clear hv7
    go_wp2_with fail
    refine HDT.out.mono ?_
    rintro _ w8 ⟨rfl, hb8⟩
    have HD8 := Lib.hid (HD7.out.later hb8)
    clear hb8
    go_wp2_with fail
    go_ret
    rw [HT.out]
    exact ⟨rfl, HD8.out⟩
  · have q1 : decide ((8 : Int) ≤ (p : Int)) = false := decide_eq_false (by omega)
    have hpl : p < b.B.length := by rw [hok.len]; omega
    obtain ⟨n, hn⟩ : ∃ n, n = b.B.getD p 0 := ⟨_, rfl⟩
    have hng : b.B[p]? = some n := by rw [hn, List.getD_eq_getElem?_getD, List.getElem?_eq_getElem hpl]; rfl
    have hn1000 : n ≤ 1000 := hok.vals n (List.mem_of_getElem? hng)
    have HT := Lib.hid (show b.ansT (.read p) = Lib.decDigits n from by rw [hn]; exact if_neg h8)
    have hcv : w7.cell? ⟨y, p, none⟩ = some (.int .i64 (n : Nat)) := by
      obtain ⟨b', o', e', -, hc⟩ := hv7.liesT (j := p) (x := (n : Int)) (by simp [hng])
      cases e'
      rw [Nat.zero_add] at hc
      exact hc
    have s1 : (0 : Int) ≤ (p : Int) := by omega
    have s2 : (p : Int) < 8 := by omega
    clear hv7 hn hng
    go_wp2_with fail
    refine (itoaN_walk n w7 B (HE.out.on HW7.out).pow (by omega)).mono ?_
    rintro _ w8 ⟨rfl, hb8⟩
    have HD8 := Lib.hid (HD7.out.later hb8)
    clear hb8
    go_wp2_with fail
    go_ret
    rw [HT.out]
    exact ⟨rfl, HD8.out⟩

theorem DeskAt.crashed {w w3 w5 : World} {gd g go : Nat} {b q : Bk} (h3 : DeskAt w3 gd g b ∧ DkFrame w w3 gd g g) (hb5 : Below w3.heap.size w3 w5) (hgo : w3.heap.size ≤ go) (hbk : BookIs w5 go q) :
    DRes w (w5.setCell ⟨gd, 0, none⟩ (.pointer (some ⟨go, 0, none⟩))) gd g q := by
  have h5 := (h3.1.later hb5).1
  have hgd := h3.1.box.lt
  have hs3 := h3.2.size
  have hk : ∀ x, x ≠ gd → (w5.setCell ⟨gd, 0, none⟩ (.pointer (some ⟨go, 0, none⟩))).heap[x]? = w5.heap[x]? := fun x hx => heap_setCell_other w5 ⟨gd, 0, none⟩ x _ hx
  have hbk6 := (hbk.keep (w' := w5.setCell ⟨gd, 0, none⟩ (.pointer (some ⟨go, 0, none⟩))) (by simp) (fun x hx => hk x (fun e => by have := (hbk.own_lt hx).1; omega))).1
  refine ⟨go, ⟨h5.box.set _, hbk6⟩, ⟨by have := hb5.size; simp; omega, fun B h1 h2 => ?_, fun x hx ho hd => ?_, fun x hx => .inr ?_, by have := h3.1.book.lt; omega⟩⟩
  · exact ((h3.2.below B h1 h2).trans (hb5.mono (by omega))).setCell (p := ⟨gd, 0, none⟩) h2 _
  · rw [hk x hd, hb5.block x (by omega), h3.2.blocks x hx ho hd]
  · have := (hbk6.own_lt hx).1
    omega

theorem extract_min (l : List UInt8) (n : Nat) : (⟨l.toArray⟩ : ByteArray).extract 0 (min n l.length) = ⟨(l.take n).toArray⟩ := by
  apply ByteArray.ext
  rw [ByteArray.data_extract]
  apply Array.toList_inj.1
  rw [Array.toList_extract]
  simp only [List.extract_eq_take_drop, Nat.sub_zero, List.drop_zero]
  exact (List.take_eq_take_min (l := l)).symm

set_option maxRecDepth 100000 in
set_option maxHeartbeats 2000000 in
theorem dcrash_walk (w : World) (B gd g : Nat) (b : Bk) (a : Option Addr) (c : Nat) (p : Nat) (h : DeskAt w gd g b) (hl : HasInts w (.slice a 1 c) [(p : Int)]) (hlr : ∀ x, a = some x → ¬ BkOwn w g x.block) (hB : B ≤ g) (hd : B ≤ gd) (hE : Env B w) (hR : Reach b) :
    Calls Tryz.prog 22 #[.pointer (some ⟨gd, 0, none⟩), .slice a 1 c] w fun e w' => e = .returned (.string ⟨(b.ansT (.crash p)).toArray⟩) ∧ DRes w w' gd g (b.ansB (.crash p)) := by
  have H := Lib.hid h
  have HE := Lib.hid hE
  have HR := Lib.hid hR
  have hc0 := h.box.cell
  obtain ⟨rb, ro, rfl, hrb, hcp⟩ := hl.liesT (j := 0) (x := (p : Int)) rfl
  rw [Nat.add_zero] at hcp
  have HCP := Lib.hid hcp
  have HLR := Lib.hid (hlr _ rfl)
  clear h hE hl hcp hlr hR
  go_enter Tryz.func22, Tryz.ntmps22
  go_wp2_with fail
  refine (text_walk w g b H.out.book).mono ?_
  rintro _ w3 ⟨rfl, hbk3, hf3⟩
  have hcp3 := (World.cell?_of_block (a := ⟨rb, ro, none⟩) (hf3.blocks rb hrb HLR.out)).trans HCP.out
  have hD3 := H.out.booked hbk3 hf3
  have HD3 := Lib.hid hD3
  have HW3 := Lib.hid (hf3.below B hB)
  have hg3 := hD3.1.book.lt
  have HB3 := Lib.hid (show B ≤ w3.heap.size by omega)
  obtain ⟨q, hq, o1, o2, o3⟩ := HR.out.opened p
  have HQ := Lib.hid hq
  have HAB := Lib.hid (show b.ansB (.crash p) = q from by show (openB (b.text.take p)).getD b = q; rw [o1]; rfl)
  have HAT := Lib.hid (show b.ansT (.crash p) = [102, 111, 117, 110, 100, 32] ++ Lib.decDigits (openN (b.text.take p)) from rfl)
  have hlim : b.text.length ≤ 1020 := Bk.text_small HR.out.good.1
  have hsm : (b.text.take p).length ≤ 1000000 := by rw [List.length_take]; omega
  have HOW := Lib.hid (open_walk (b.text.take p) w3 B (by omega) (HE.out.on HW3.out) hsm)
  have hmany : openN (b.text.take p) ≤ 1020 := by
    rw [o3]
    exact Nat.le_trans List.count_le_length (by rw [List.length_take]; omega)
  obtain ⟨m, hm⟩ : ∃ m, m = openN (b.text.take p) := ⟨_, rfl⟩
  obtain ⟨tx, htx⟩ := named b.text
  have hts : tx.size = b.text.length := by rw [htx]; exact List.size_toArray
  have hex : (⟨(b.text.take p).toArray⟩ : ByteArray) = tx.extract 0 (min p tx.size) := by rw [hts, htx]; exact (extract_min _ _).symm
  rw [hex] at HOW
  rw [← htx]
  rw [← hm] at hmany HAT
  have HM := Lib.hid hm
  have HO1 := Lib.hid o1
  have HO2 := Lib.hid o2
  obtain ⟨mn, hmn⟩ : ∃ mn, mn = min p tx.size := ⟨_, rfl⟩
  have hmn1 : mn ≤ tx.size := by omega
  have s0 : (min (p : Int) (tx.size : Int)) = (mn : Int) := by omega
  have s1 : (0 : Int) ≤ (mn : Int) := by omega
  have s2 : (mn : Int) ≤ (tx.size : Int) := by omega
  rw [← hmn] at HOW
  clear hbk3 hf3 hD3 hq o1 o2 o3 hsm hm htx hts hex hmn
  go_wp2_with fail
  refine HOW.out.mono ?_
  rintro e w5 ⟨⟨pt, rfl, hres⟩, hb5⟩
  rw [HO1.out] at hres
  obtain ⟨go, rfl, hgo, hbko⟩ := hres
  rw [← HM.out, HO2.out, show errV ((0 : Nat) : Int) = .nilIface from rfl]
  have hd5 := (HD3.out.1.later hb5).1
  have c5 := hd5.box.cell
  have f5 := hd5.box.frozen
  have HD6 := Lib.hid (DeskAt.crashed HD3.out hb5 hgo hbko)
  have HW6 := Lib.hid (((HW3.out.trans (hb5.mono HB3.out))).setCell (p := ⟨gd, 0, none⟩) hd (.pointer (some ⟨go, 0, none⟩)))
  clear hb5 hgo hbko hd5 HOW
  go_wp2_with fail
  obtain ⟨w6, hw6⟩ : ∃ w6, w6 = w5.setCell ⟨gd, 0, none⟩ (.pointer (some ⟨go, 0, none⟩)) := ⟨_, rfl⟩
  rw [← hw6] at HD6 HW6 ⊢
  refine (itoaN_walk m w6 B (HE.out.on HW6.out).pow (by omega)).mono ?_
  rintro _ w8 ⟨rfl, hb8⟩
  have HD8 := Lib.hid (HD6.out.later hb8)
  have hdl := Lib.nDigits_le20 m (by omega)
  rw [← Lib.decDigits_length] at hdl
  obtain ⟨z, hz⟩ := named (Lib.decDigits m)
  have hzl : z.size ≤ 20 := by rw [hz]; exact hdl
  rw [← hz]
  have HZ := Lib.hid hz
  clear hb8 hz hdl
  go_wp2_with fail
  go_ret
  rw [HAB.out, HAT.out, HZ.out, ← bytes_join]
  exact ⟨rfl, HD8.out⟩

end Go.Proofs.YtegibgflhhdddaaGreatDoor
