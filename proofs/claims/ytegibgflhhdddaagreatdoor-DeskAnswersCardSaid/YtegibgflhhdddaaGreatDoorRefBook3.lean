/- The reference's book: Write at whatever numbers, Do. -/
import Derived.Test.YtegibgflhhdddaaGreatDoorRefBook2
namespace Go.Proofs.YtegibgflhhdddaaGreatDoor
open Go.RowKit

theorem refwrite_walk (w : World) (v1 v2 v3 : Value) (b : Bk) (p x : Int) (hr : RefIs w v1 v2 v3 b) (hok : b.ok) :
    Calls Tryz.prog 28 #[refV v1 v2 v3 b, .int .i64 p, .int .i64 x] w fun e w' => RefRes (b.write p x) #[.int .i64 (b.writeE p x : Nat)] e w' ∧ Below w.heap.size w w' := by
  by_cases h1 : okW p x
  · by_cases h2 : b.T.length = 60
    · have he : b.writeE p x = 4 := by unfold Bk.writeE; rw [if_pos h1, if_pos h2]
      have hw : b.write p x = b := by unfold Bk.write; rw [he]; rfl
      rw [he, hw]
      obtain ⟨a1, n1, m1, rfl, e1⟩ := hr.r1.sl
      obtain ⟨a2, n2, m2, rfl, e2⟩ := hr.r2.sl
      obtain ⟨a3, n3, m3, rfl, e3⟩ := hr.r3.sl
      refine (refwrite_full w a1 a2 a3 n1 m1 n2 m2 n3 m3 ⟨b.text.toArray⟩ b.T.length p x h1 (by omega)).mono fun e w' ⟨hh, hb⟩ => ⟨⟨_, _, _, hh, hr.below hb⟩, hb⟩
    · have he : b.writeE p x = 0 := by unfold Bk.writeE; rw [if_pos h1, if_neg h2]
      have hw : b.write p x = b.put p.toNat x.toNat := by unfold Bk.write; rw [he]; rfl
      rw [he, hw]
      obtain ⟨a1, a2, a3, a4⟩ := h1
      have e1 : p = (p.toNat : Int) := by omega
      have e2 : x = (x.toNat : Int) := by omega
      rw [e1, e2]
      simp only [Int.toNat_natCast]
      exact refwrite_ok w v1 v2 v3 b p.toNat x.toNat hr hok (by omega) (by omega) (by have := hok.many; omega)
  · have he : b.writeE p x = 1 := by unfold Bk.writeE; rw [if_neg h1]
    have hw : b.write p x = b := by unfold Bk.write; rw [he]; rfl
    rw [he, hw]
    obtain ⟨a1, n1, m1, rfl, e1⟩ := hr.r1.sl
    obtain ⟨a2, n2, m2, rfl, e2⟩ := hr.r2.sl
    obtain ⟨a3, n3, m3, rfl, e3⟩ := hr.r3.sl
    refine (refwrite_bad w a1 a2 a3 n1 m1 n2 m2 n3 m3 ⟨b.text.toArray⟩ b.T.length p x h1).mono fun e w' ⟨hh, hb⟩ => ⟨⟨_, _, _, hh, hr.below hb⟩, hb⟩

set_option maxRecDepth 100000 in
set_option maxHeartbeats 1000000 in
theorem refdo_full (w : World) (a1 a2 a3 : Option Addr) (n1 m1 n2 m2 n3 m3 : Nat) (t : ByteArray) (m : Nat) (hm : 60 ≤ m) :
    Calls Tryz.prog 30 #[.agg #[.slice a1 n1 m1, .slice a2 n2 m2, .slice a3 n3 m3, .string t, .int .i64 (m : Nat)]] w fun e w' => e = .returned (.tuple #[.agg #[.slice a1 n1 m1, .slice a2 n2 m2, .slice a3 n3 m3, .string t, .int .i64 (m : Nat)], .int .i64 0, .int .i64 4]) ∧ Below w.heap.size w w' := by
  have q1 : decide ((60 : Int) ≤ (m : Int)) = true := decide_eq_true (by omega)
  go_enter Tryz.func30, Tryz.ntmps30
  go_wp2_with fail
  refine bodyPost_ret (results_row3 rfl rfl (load_book (by have h := heap_alloc_new (w.alloc (.cells #[.slice a1 n1 m1, .slice a2 n2 m2, .slice a3 n3 m3, .string t, .int .i64 (m : Nat)] 44)) (.cells #[.slice a1 n1 m1, .slice a2 n2 m2, .slice a3 n3 m3, .string t, .int .i64 (m : Nat)] 44); rw [World.size_alloc] at h; exact h))) rfl ⟨rfl, ((Below.refl _ _).alloc (Nat.le_refl _) _).alloc (by simp) _⟩

theorem natsI_get {l : List Nat} {i x : Nat} (h : l[i]? = some x) : (natsI l)[i]? = some (x : Int) := by simp [natsI, h]
theorem natsI_set (l : List Nat) (i x : Nat) : natsI (l.set i x) = (natsI l).set i (x : Int) := by simp [natsI, List.map_set]
theorem HasInts.liesR {w : World} {a : Option Addr} {n cap : Nat} {L : List Int} (h : HasInts w (.slice a n cap) L) {j : Nat} {x : Int} (hx : L[j]? = some x) :
    ∃ b off, a = some ⟨b, off, none⟩ ∧ w.cell? ⟨b, off + j, none⟩ = some (.int .i64 x) := by
  obtain ⟨a', cap', h1, -, -, h4⟩ := h
  cases h1
  obtain ⟨b, off, h5, -, h6⟩ := h4 (Nat.lt_of_le_of_lt (Nat.zero_le _) (List.getElem?_eq_some_iff.1 hx).1)
  exact ⟨b, off, h5, h6 j x hx⟩
theorem applyG_takeR {B : List Nat} {G : List (Nat × Nat)} {i : Nat} {q : Nat × Nat} (h : G[i]? = some q) : applyG B (G.take (i + 1)) = (applyG B (G.take i)).set q.1 q.2 := by
  unfold applyG
  rw [List.take_succ_eq_append_getElem (List.getElem?_eq_some_iff.1 h).1, List.foldl_append, (List.getElem?_eq_some_iff.1 h).2]
  rfl

abbrev zBook : Obj := .cells #[.slice none 0 0, .slice none 0 0, .slice none 0 0, .string ⟨#[]⟩, .int .i64 0] 44 (0, 0)
theorem HasInts.blk {w : World} {a : Option Addr} {n c : Nat} {L : List Int} (h : HasInts w (.slice a n c) L) (h0 : 0 < L.length) {x : Addr} (hx : a = some x) : x.block < w.heap.size := by
  obtain ⟨a', cap', h1, h2, h3, h4⟩ := h
  cases h1
  obtain ⟨b, off, h5, h6, -⟩ := h4 h0
  rw [h5] at hx
  cases hx
  exact h6

theorem HasInts.far {w : World} {a : Option Addr} {n c : Nat} {L : List Int} (h : HasInts w (.slice a n c) L) {g o : Nat} {u : Value} (hne : ∀ x, a = some x → x.block ≠ g) : HasInts (w.setCell ⟨g, o, none⟩ u) (.slice a n c) L := by
  obtain ⟨a', cap', h1, h2, h3, h4⟩ := h
  cases h1
  refine ⟨a, c, rfl, h2, h3, fun h0 => ?_⟩
  obtain ⟨b, off, rfl, h5, h6⟩ := h4 h0
  refine ⟨b, off, rfl, by simpa using h5, fun j x hj => ?_⟩
  have hb := hne _ rfl
  exact (World.cell?_setCell_other _ _ _ _ (fun e => by simp only [Addr.mk.injEq] at e; exact hb e.1.symm)).trans (h6 j x hj)

structure DoMid (w wr : World) (g : Nat) (b : Bk) (s2 s3 : Value) (t : ByteArray) (m i : Nat) : Prop where
  box : ∃ aa nn cc, wr.heap[g]? = some (.cells #[.slice aa nn cc, s2, s3, .string t, .int .i64 (m : Nat)] 44 (0, 0)) ∧ HasInts wr (.slice aa nn cc) (natsI (applyG b.B (b.G.take i))) ∧ (∀ x, aa = some x → x.block ≠ g ∧ x.block ≠ g + 1) ∧ IntRow wr (.slice aa nn cc)
  res : wr.heap[g + 1]? = some zBook
  below : Below w.heap.size w wr

set_option maxRecDepth 100000 in
set_option maxHeartbeats 3000000 in
theorem refdo_ok (w : World) (v1 v2 v3 : Value) (b : Bk) (hr : RefIs w v1 v2 v3 b) (hok : b.ok) (hm : b.T.length < 60) :
    Calls Tryz.prog 30 #[refV v1 v2 v3 b] w fun e w' => RefRes b.close #[.int .i64 (b.G.length : Nat), .int .i64 0] e w' ∧ Below w.heap.size w w' := by
  obtain ⟨a1, n1, m1, rfl, e1⟩ := hr.r1.sl
  obtain ⟨a2, n2, m2, rfl, e2⟩ := hr.r2.sl
  obtain ⟨a3, n3, m3, rfl, e3⟩ := hr.r3.sl
  have htl := Bk.text_le hok
  have HR := Lib.hid hr
  obtain ⟨t, ht⟩ : ∃ t : ByteArray, t = ⟨b.text.toArray⟩ := ⟨_, rfl⟩
  have hts : t.size ≤ 2460 := by rw [ht]; show b.text.toArray.size ≤ 2460; rw [List.size_toArray]; exact htl
  obtain ⟨m, hmm⟩ : ∃ m, m = b.T.length := ⟨_, rfl⟩
  unfold refV
  rw [← ht, ← hmm]
  rw [← hmm] at hm
  have HT := Lib.hid ht
  have HM := Lib.hid hmm
  rw [natsI_length, List.length_map] at e2 e3
  obtain ⟨n, hn⟩ : ∃ n, n = b.G.length := ⟨_, rfl⟩
  rw [← hn] at e2 e3 ⊢
  subst e2
  obtain rfl : n3 = n2 := e3
  have hn60 : n3 ≤ 60 := by have := hok.waits; have := hok.many; omega
  have HN := Lib.hid hn
  have q1 : decide ((60 : Int) ≤ (m : Int)) = false := decide_eq_false (by omega)
  clear hr e1 ht hmm htl hn
  go_enter Tryz.func30, Tryz.ntmps30
  go_wp2_with fail
  have hb0 := ((Below.refl w.heap.size w).alloc (Nat.le_refl _) (.cells #[.slice a1 n1 m1, .slice a2 n3 m2, .slice a3 n3 m3, .string t, .int .i64 (m : Nat)] 44)).alloc (by simp) (.cells #[.slice none 0 0, .slice none 0 0, .slice none 0 0, .string ⟨#[]⟩, .int .i64 0] 44)
  have hh0 : ((w.alloc (.cells #[.slice a1 n1 m1, .slice a2 n3 m2, .slice a3 n3 m3, .string t, .int .i64 (m : Nat)] 44)).alloc (.cells #[.slice none 0 0, .slice none 0 0, .slice none 0 0, .string ⟨#[]⟩, .int .i64 0] 44)).heap[w.heap.size]? = some (.cells #[.slice a1 n1 m1, .slice a2 n3 m2, .slice a3 n3 m3, .string t, .int .i64 (m : Nat)] 44 (0, 0)) := by
    rw [Below.heap_alloc _ _ _ (by simp)]
    exact heap_alloc_new w _
  have hh1 := heap_alloc_new (w.alloc (.cells #[.slice a1 n1 m1, .slice a2 n3 m2, .slice a3 n3 m3, .string t, .int .i64 (m : Nat)] 44)) (.cells #[.slice none 0 0, .slice none 0 0, .slice none 0 0, .string ⟨#[]⟩, .int .i64 0] 44)
  obtain ⟨w0, hw0⟩ : ∃ x, x = (w.alloc (.cells #[.slice a1 n1 m1, .slice a2 n3 m2, .slice a3 n3 m3, .string t, .int .i64 (m : Nat)] 44)).alloc (.cells #[.slice none 0 0, .slice none 0 0, .slice none 0 0, .string ⟨#[]⟩, .int .i64 0] 44) := ⟨_, rfl⟩
  rw [← hw0] at hb0 hh0 hh1 ⊢
  rw [World.size_alloc] at hh1
  obtain ⟨g, hg⟩ : ∃ g, g = w.heap.size := ⟨_, rfl⟩
  rw [← hg] at hh0 hh1 ⊢
  have HG := Lib.hid hg
  have HMID : Hid (DoMid w w0 g b (.slice a2 n3 m2) (.slice a3 n3 m3) t m 0) := Lib.hid ⟨⟨a1, n1, m1, hh0, HR.out.r1.below hb0, fun x hx => by have := HR.out.r1.blk (by rw [natsI_length, hok.len]; omega) hx; have := HG.out; omega, HR.out.i1.below hb0⟩, hh1, hb0⟩
  clear hw0 hb0 hg hh0 hh1
  go_loopw [6] (fun ix wr => ∃ i : Nat, i ≤ n3 ∧ ix = .int .i64 i ∧ DoMid w wr g b (.slice a2 n3 m2) (.slice a3 n3 m3) t m i) (fun ix _ => n3 - (intOf ix).toNat)
  case atStart => exact ⟨0, Nat.zero_le _, rfl, HMID.out⟩
  case round =>
    obtain ⟨i, hi, rfl, hd⟩ := hrel
    obtain ⟨aa, nn, cc, hh0, hints, hfar, hir⟩ := hd.box
    have HFAR := Lib.hid hfar
    have HIR := Lib.hid hir
    clear hfar hir
    have hres := hd.res
    have hbel := hd.below
    have hgw := HG.out
    have hz1 : g + 1 < wr.heap.size := (Array.getElem?_eq_some_iff.1 hres).1
    have j0 : wr.cell? ⟨g, 0, none⟩ = some (.slice aa nn cc) := by unfold World.cell?; simp only; rw [hh0]; rfl
    have j1 : wr.cell? ⟨g, 1, none⟩ = some (.slice a2 n3 m2) := by unfold World.cell?; simp only; rw [hh0]; rfl
    have j2 : wr.cell? ⟨g, 2, none⟩ = some (.slice a3 n3 m3) := by unfold World.cell?; simp only; rw [hh0]; rfl
    have f0 : wr.frozen? ⟨g, 0, none⟩ = false := by unfold World.frozen?; simp only; rw [hh0]; rfl
    have f1 : wr.frozen? ⟨g, 1, none⟩ = false := by unfold World.frozen?; simp only; rw [hh0]; rfl
    have f2 : wr.frozen? ⟨g, 2, none⟩ = false := by unfold World.frozen?; simp only; rw [hh0]; rfl
    have HH0 := Lib.hid hh0
    have HINT := Lib.hid hints
    have HRES := Lib.hid hres
    have HBEL := Lib.hid hbel
    have HGW := Lib.hid hgw
    clear hd hh0 hints hres hbel hgw
    by_cases hlt : i < n3
    · have q2 : decide (i < n3) = true := decide_eq_true hlt
      obtain ⟨q, hqq⟩ : ∃ q, b.G[i]? = some q := ⟨_, List.getElem?_eq_getElem (by have := HN.out; omega)⟩
      have hqr := hok.grp q (List.mem_of_getElem? hqq)
      have HR2 := HR.out.below HBEL.out
      obtain ⟨b2, o2, rfl, hc2⟩ := HR2.r2.liesR (natsI_get (show (b.G.map (·.1))[i]? = some q.1 by simp [hqq]))
      obtain ⟨b3, o3, rfl, hc3⟩ := HR2.r3.liesR (natsI_get (show (b.G.map (·.2))[i]? = some q.2 by simp [hqq]))
      have HQQ := Lib.hid (applyG_takeR (B := b.B) hqq)
      obtain ⟨qp, qv⟩ := q
      simp only at hc2 hc3 hqr
      have hi0 : (0 : Int) ≤ (i : Int) := Int.natCast_nonneg _
      have hi1 : (i : Int) < (n3 : Int) := by omega
      clear HR2 hqq
      go_wp2_with fail
      go_still_tail 12, (by kernel_rfl)
      change wpList _ _ _ _ _ wr.drew
      go_wp2_with fail
      have hBl : (applyG b.B (b.G.take i)).length = 8 := by rw [applyG_length, hok.len]
      have hxs : (natsI (applyG b.B (b.G.take i))).length = 8 := by rw [natsI_length, hBl]
      refine (set_anyD _ (natsI (applyG b.B (b.G.take i))) qp (qv : Int) wr.drew (HINT.out.below (Below.refl wr.heap.size wr).drew) (by omega) (by omega)).mono ?_
      rintro _ w5 ⟨⟨u, rfl, ho5⟩, hb5⟩
      rw [← natsI_set, ← HQQ.out] at ho5
      obtain ⟨r5, k5, eu5, ho5'⟩ := own_some ho5 (by omega)
      subst eu5
      have hb45 : Below wr.heap.size wr w5 := (Below.refl wr.heap.size wr).drew.trans hb5
      have hbw5 := HBEL.out.trans (hb45.mono HBEL.out.size)
      have hh5 := (hb45.block g (by omega)).trans HH0.out
      have hr5 := (hb45.block (g + 1) hz1).trans HRES.out
      have i5 : w5.cell? ⟨g, 0, none⟩ = some (.slice aa nn cc) := by unfold World.cell?; simp only; rw [hh5]; rfl
      have l5 : w5.frozen? ⟨g, 0, none⟩ = false := by unfold World.frozen?; simp only; rw [hh5]; rfl
      have hs5 := heap_setCell_same w5 g 0 _ _ (.slice (some ⟨r5, 0, none⟩) (natsI (applyG b.B (b.G.take i))).length k5) hh5
      have HD5 : Hid (DoMid w (w5.setCell ⟨g, 0, none⟩ (.slice (some ⟨r5, 0, none⟩) (natsI (applyG b.B (b.G.take i))).length k5)) g b (.slice (some ⟨b2, o2, none⟩) n3 m2) (.slice (some ⟨b3, o3, none⟩) n3 m3) t m (i + 1)) := Lib.hid
        ⟨⟨_, _, _, hs5, (HasInts.of_own (ownsRow_setCell_below ho5' (a := ⟨g, 0, none⟩) (by simp only [World.size_drew]; omega) _)).2, fun x hx => by
          cases hx
          have := (ho5'.lt r5 rfl).1
          simp only [World.size_drew] at this
          constructor <;> (simp only; omega), IntRow.of_own (ownsRow_setCell_below ho5' (a := ⟨g, 0, none⟩) (by simp only [World.size_drew]; omega) _)⟩, (heap_setCell_other _ _ _ _ (by simp only; omega)).trans hr5, hbw5.setCell (p := ⟨g, 0, none⟩) (by have := HG.out; simp only; omega) _⟩
      clear ho5 ho5' hb5 hb45 hbw5 hh5 hr5 hs5 hBl hxs
      go_wp2_with fail
      go_roundw
      case rel => exact ⟨i + 1, by omega, by go_num, HD5.out⟩
      case measure => simp [intOf]; omega
    · obtain rfl : i = n3 := by omega
      have q2 : decide (i < i) = false := decide_eq_false hlt
      have htk : b.G.take i = b.G := List.take_of_length_le (by have := HN.out; omega)
      rw [htk] at HINT
      clear htk
      have hs1 := heap_setCell_same wr g 1 _ _ (.slice none 0 0) HH0.out
      have hs2 := heap_setCell_same _ g 2 _ _ (.slice none 0 0) hs1
      have hr2 := (heap_setCell_other (wr.setCell ⟨g, 1, none⟩ (.slice none 0 0)) ⟨g, 2, none⟩ (g + 1) (.slice none 0 0) (by simp only; omega)).trans ((heap_setCell_other wr ⟨g, 1, none⟩ (g + 1) (.slice none 0 0) (by simp only; omega)).trans HRES.out)
      have hbw := (HBEL.out.setCell (p := ⟨g, 1, none⟩) (by have := HG.out; simp only; omega) (.slice none 0 0)).setCell (p := ⟨g, 2, none⟩) (by have := HG.out; simp only; omega) (.slice none 0 0)
      have hin := (HINT.out.far (g := g) (o := 1) (u := .slice none 0 0) (fun x hx => (HFAR.out x hx).1)).far (g := g) (o := 2) (u := .slice none 0 0) (fun x hx => (HFAR.out x hx).1)
      have HS2 : Hid (((wr.setCell ⟨g, 1, none⟩ (.slice none 0 0)).setCell ⟨g, 2, none⟩ (.slice none 0 0)).heap[g]? = some (.cells #[.slice aa nn cc, .slice none 0 0, .slice none 0 0, .string t, .int .i64 (m : Nat)] 44 (0, 0))) := Lib.hid hs2
      have HR2 := Lib.hid hr2
      have HBW := Lib.hid hbw
      have HIN := Lib.hid hin
      have HIRS := Lib.hid ((HIR.out.set (g := g) (o := 1) (u := .slice none 0 0) (fun cs fr e => by rw [HH0.out] at e; simp at e)).set (g := g) (o := 2) (u := .slice none 0 0) (fun cs fr e => by rw [hs1] at e; simp at e))
      have hsz2 : ((wr.setCell ⟨g, 1, none⟩ (.slice none 0 0)).setCell ⟨g, 2, none⟩ (.slice none 0 0)).heap.size = wr.heap.size := by simp
      clear hs1 hs2 hr2 hbw hin
      go_upto_region 10 with (fail)
      obtain ⟨w4, hw4⟩ : ∃ y, y = (wr.setCell ⟨g, 1, none⟩ (.slice none 0 0)).setCell ⟨g, 2, none⟩ (.slice none 0 0) := ⟨_, rfl⟩
      rw [← hw4] at HS2 HR2 HBW HIN HIRS hsz2 ⊢
      clear hw4 j0 j1 j2 f0 f1 f2
      have i0 : w4.cell? ⟨g, 0, none⟩ = some (.slice aa nn cc) := by unfold World.cell?; simp only; rw [HS2.out]; rfl
      have i1 : w4.cell? ⟨g, 1, none⟩ = some (.slice none 0 0) := by unfold World.cell?; simp only; rw [HS2.out]; rfl
      have i2 : w4.cell? ⟨g, 2, none⟩ = some (.slice none 0 0) := by unfold World.cell?; simp only; rw [HS2.out]; rfl
      have i3 : w4.cell? ⟨g, 3, none⟩ = some (.string t) := by unfold World.cell?; simp only; rw [HS2.out]; rfl
      have i4 : w4.cell? ⟨g, 4, none⟩ = some (.int .i64 (m : Nat)) := by unfold World.cell?; simp only; rw [HS2.out]; rfl
      go_wp2_with fail
      refine (refdown_walk w4 _ _ _ _ _ _ _ _ _ t ⟨#[100]⟩ m (by decide) (by omega) (by omega)).mono ?_
      rintro _ w5 ⟨rfl, hb5⟩
      have H15 := Lib.hid ((hb5.block (g + 1) (by omega)).trans HR2.out)
      have HB5 := Lib.hid (HBW.out.trans (hb5.mono HBW.out.size))
      have HI5 := Lib.hid (HIN.out.below hb5)
      have HIR5 := Lib.hid (HIRS.out.below hb5)
      have hz5 := hb5.size
      clear hb5 i0 i1 i2 i3 i4
      have e0 : w5.cell? ⟨g + 1, 0, none⟩ = some (.slice none 0 0) := by unfold World.cell?; simp only; rw [H15.out]; rfl
      have e1 : w5.cell? ⟨g + 1, 1, none⟩ = some (.slice none 0 0) := by unfold World.cell?; simp only; rw [H15.out]; rfl
      have e2 : w5.cell? ⟨g + 1, 2, none⟩ = some (.slice none 0 0) := by unfold World.cell?; simp only; rw [H15.out]; rfl
      have e3 : w5.cell? ⟨g + 1, 3, none⟩ = some (.string ⟨#[]⟩) := by unfold World.cell?; simp only; rw [H15.out]; rfl
      have e4 : w5.cell? ⟨g + 1, 4, none⟩ = some (.int .i64 0) := by unfold World.cell?; simp only; rw [H15.out]; rfl
      have z0 : w5.frozen? ⟨g + 1, 0, none⟩ = false := by unfold World.frozen?; simp only; rw [H15.out]; rfl
      have z1 : w5.frozen? ⟨g + 1, 1, none⟩ = false := by unfold World.frozen?; simp only; rw [H15.out]; rfl
      have z2 : w5.frozen? ⟨g + 1, 2, none⟩ = false := by unfold World.frozen?; simp only; rw [H15.out]; rfl
      have z3 : w5.frozen? ⟨g + 1, 3, none⟩ = false := by unfold World.frozen?; simp only; rw [H15.out]; rfl
      have z4 : w5.frozen? ⟨g + 1, 4, none⟩ = false := by unfold World.frozen?; simp only; rw [H15.out]; rfl
      have htxt : (t.data.toList ++ (lineOf (⟨#[100]⟩ : ByteArray).data.toList ++ [10])) = b.close.text := by rw [Bk.close_text, HT.out]; rfl
      have HTX := Lib.hid htxt
      clear htxt
      rw [HTX.out]
      go_wp2_with fail
      have hb6 := ((((HB5.out.setCell (p := ⟨g + 1, 0, none⟩) (by have := HG.out; simp only; omega) (.slice aa nn cc)).setCell (p := ⟨g + 1, 1, none⟩) (by have := HG.out; simp only; omega) (.slice none 0 0)).setCell (p := ⟨g + 1, 2, none⟩) (by have := HG.out; simp only; omega) (.slice none 0 0)).setCell (p := ⟨g + 1, 3, none⟩) (by have := HG.out; simp only; omega) (.string ⟨b.close.text.toArray⟩)).setCell (p := ⟨g + 1, 4, none⟩) (by have := HG.out; simp only; omega) (.int .i64 ((m : Int) + 1))
      have HB6 := Lib.hid hb6
      clear hb6
      refine bodyPost_ret (results_row3 rfl rfl (load_book (fill5 H15.out _ _ _ _ _))) rfl ⟨⟨.slice aa nn cc, .slice none 0 0, .slice none 0 0, ?_, ?_⟩, HB6.out⟩
      · have hT : ((b.close.T.length : Nat) : Int) = (m : Int) + 1 := by
          have : b.close.T.length = m + 1 := by simp [Bk.close, HM.out]
          rw [this]
          push_cast
          rfl
        unfold refV
        rw [hT]
        rfl
      · have hf : ∀ x, aa = some x → x.block ≠ g + 1 := fun x hx => (HFAR.out x hx).2
        have h0 := heap_setCell_same w5 (g + 1) 0 _ _ (.slice aa nn cc) H15.out
        have h1 := heap_setCell_same _ (g + 1) 1 _ _ (.slice none 0 0) h0
        have h2 := heap_setCell_same _ (g + 1) 2 _ _ (.slice none 0 0) h1
        have h3 := heap_setCell_same _ (g + 1) 3 _ _ (.string ⟨b.close.text.toArray⟩) h2
        exact ⟨((((HI5.out.far hf).far hf).far hf).far hf).far hf, HasInts.nil _, HasInts.nil _, fun _ => rfl, fun _ => rfl,
          ((((HIR5.out.set (fun cs fr e => by rw [H15.out] at e; simp at e)).set (fun cs fr e => by rw [h0] at e; simp at e)).set (fun cs fr e => by rw [h1] at e; simp at e)).set (fun cs fr e => by rw [h2] at e; simp at e)).set (fun cs fr e => by rw [h3] at e; simp at e), IntRow.nil _, IntRow.nil _⟩

theorem refdo_walk (w : World) (v1 v2 v3 : Value) (b : Bk) (hr : RefIs w v1 v2 v3 b) (hok : b.ok) :
    Calls Tryz.prog 30 #[refV v1 v2 v3 b] w fun e w' => RefRes b.done #[.int .i64 (b.doneN : Nat), .int .i64 (b.doneE : Nat)] e w' ∧ Below w.heap.size w w' := by
  by_cases h : b.T.length = 60
  · have e1 : b.doneN = 0 := by unfold Bk.doneN; rw [if_pos h]
    have e2 : b.doneE = 4 := by unfold Bk.doneE; rw [if_pos h]
    have e3 : b.done = b := by unfold Bk.done; rw [if_pos h]
    rw [e1, e2, e3]
    obtain ⟨a1, n1, m1, rfl, -⟩ := hr.r1.sl
    obtain ⟨a2, n2, m2, rfl, -⟩ := hr.r2.sl
    obtain ⟨a3, n3, m3, rfl, -⟩ := hr.r3.sl
    exact (refdo_full w a1 a2 a3 n1 m1 n2 m2 n3 m3 ⟨b.text.toArray⟩ b.T.length (by omega)).mono fun e w' ⟨hh, hb⟩ => ⟨⟨_, _, _, hh, hr.below hb⟩, hb⟩
  · have e1 : b.doneN = b.G.length := by unfold Bk.doneN; rw [if_neg h]
    have e2 : b.doneE = 0 := by unfold Bk.doneE; rw [if_neg h]
    have e3 : b.done = b.close := by unfold Bk.done; rw [if_neg h]
    rw [e1, e2, e3]
    exact refdo_ok w v1 v2 v3 b hr hok (by have := hok.many; omega)

end Go.Proofs.YtegibgflhhdddaaGreatDoor
