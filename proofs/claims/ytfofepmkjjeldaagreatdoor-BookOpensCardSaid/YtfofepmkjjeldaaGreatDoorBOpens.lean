/- The walk of BookOpens. -/
import Derived.Test.YtfofepmkjjeldaaGreatDoorRefBox
import Derived.Deep.RegionHeld3
namespace Go.Proofs.YtfofepmkjjeldaaGreatDoor
open Go.RowKit

theorem open_cases (t : List UInt8) : (openB t = none ∧ openE t ≠ 0) ∨ ∃ b, openB t = some b ∧ openE t = 0 ∧ b.G = [] := by
  unfold openB openE
  by_cases h1 : 2000 < t.length
  · rw [if_pos h1, if_pos h1]
    exact .inl ⟨rfl, by decide⟩
  · rw [if_neg h1, if_neg h1]
    by_cases h2 : (Bk.new.lines (wholeLines t)).2.1 = 0
    · rw [if_pos h2]
      exact .inr ⟨_, rfl, h2, rfl⟩
    · rw [if_neg h2]
      exact .inl ⟨rfl, h2⟩

set_option maxRecDepth 100000 in
set_option maxHeartbeats 8000000 in
theorem bopens_walk (s : ByteArray) (W : World) (hs : s.size ≤ 140737488351232) (hH : Handled W) (hE : Env W.heap.size W) :
    Calls Tryz.prog 4 #[.string s] W fun e w' => e = .returned (.bool true) ∧ Below W.heap.size W w' := by
  have HH := Lib.hid hH
  have HE := Lib.hid hE
  clear hH hE
  go_enter Tryz.func4, Tryz.ntmps4
  go_wp2_with fail
  refine (refopen_walk s W hs).mono ?_
  rintro e w1 ⟨⟨v, rfl, hv⟩, hb1⟩
  rcases open_cases s.data.toList with ⟨hq, hne⟩ | ⟨b, hq, hz, hG⟩
  · rw [hq] at hv
    subst hv
    have hba : ∀ o, Below w1.heap.size w1 (w1.alloc o) := fun o => (Below.refl _ _).alloc (Nat.le_refl _) _
    have HBA := Lib.hid (fun o => hb1.trans ((hba o).mono hb1.size))
    have HQ := Lib.hid hq
    have q1 : ((openE s.data.toList : Int) != 0) = true := bne_iff_ne.2 (by omega)
    have q2 : ((openN s.data.toList : Int) == (openN s.data.toList : Int)) = true := beq_iff_eq.2 rfl
    clear hq hba hb1
    unfold noBook
    go_wp2_with fail
    refine (open_any s _ W.heap.size (HBA.out _).size (HE.out.on (HBA.out _)) hs).mono ?_
    rintro e w2 ⟨⟨p, rfl, hp⟩, hb2⟩
    have HB2 := Lib.hid ((HBA.out _).trans (hb2.mono (HBA.out _).size))
    clear hp hb2
    go_wp2_with fail
    refine (err_okB _ w2 (HH.out.below HB2.out)).mono ?_
    rintro _ w3 ⟨rfl, hb3⟩
    have HB3 := Lib.hid (HB2.out.trans (hb3.mono HB2.out.size))
    clear hb3
    go_wp2_with fail
    go_ret
    exact ⟨rfl, HB3.out⟩
  · rw [hq] at hv
    obtain ⟨v1, v2, v3, rfl, hr⟩ := hv
    obtain ⟨a1, n1, m1, rfl, -⟩ := hr.r1.sl
    obtain ⟨a2, n2, m2, rfl, -⟩ := hr.r2.sl
    obtain ⟨a3, n3, m3, rfl, -⟩ := hr.r3.sl
    obtain ⟨tx, htx⟩ := named b.text
    obtain ⟨m, hm⟩ : ∃ m, m = b.T.length := ⟨_, rfl⟩
    unfold refV
    rw [← htx, ← hm]
    obtain ⟨gx, hgx⟩ : ∃ g, g = w1.heap.size := ⟨_, rfl⟩
    obtain ⟨W1, hW1⟩ : ∃ W1, W1 = w1.alloc (.cells #[.slice a1 n1 m1, .slice a2 n2 m2, .slice a3 n3 m3, .string tx, .int .i64 (m : Nat)] 36) := ⟨_, rfl⟩
    have hba : Below w1.heap.size w1 W1 := by rw [hW1]; exact (Below.refl _ _).alloc (Nat.le_refl _) _
    have hX : W1.heap[gx]? = some (.cells #[.slice a1 n1 m1, .slice a2 n2 m2, .slice a3 n3 m3, .string tx, .int .i64 (m : Nat)] 36 (0, 0)) := by
      rw [hW1, hgx]
      exact heap_alloc_new w1 _
    have HBW := Lib.hid (hb1.trans (hba.mono hb1.size))
    have HR := Lib.hid (hr.below hba)
    have HX := Lib.hid hX
    have HQ := Lib.hid hq
    have HG := Lib.hid hG
    have HTX := Lib.hid htx
    have HW1 := Lib.hid hW1
    have HGX := Lib.hid hgx
    rw [hz]
    have HZ := Lib.hid hz
    have q1 : (((0 : Nat) : Int) != 0) = false := rfl
    have q2 : ((openN s.data.toList : Int) == (openN s.data.toList : Int)) = true := beq_iff_eq.2 rfl
    clear hq hba hb1 hr hX htx hm hW1 hgx hz hG
    go_wp2_with fail
    rw [← HW1.out, ← HGX.out]
    clear HW1 HGX
    refine (open_any s _ W.heap.size HBW.out.size (HE.out.on HBW.out) hs).mono ?_
    rintro e w2 ⟨⟨p, he, hp⟩, hb2⟩
    rw [HQ.out] at hp
    rw [HZ.out] at he
    subst he
    obtain ⟨g, rfl, hg, hbk⟩ := hp
    have hn : errV ((0 : Nat) : Int) = .nilIface := rfl
    rw [hn]
    have HB2 := Lib.hid (HBW.out.trans (hb2.mono HBW.out.size))
    have HX2 := Lib.hid ((hb2.block gx (lt_of_heap HX.out)).trans HX.out)
    have HR2 := Lib.hid (HR.out.below hb2)
    have HBK := Lib.hid hbk
    have hWg : W.heap.size ≤ g := Nat.le_trans HBW.out.size hg
    clear hn hb2 hbk
    have hS : ∀ w' : World, w'.heap[gx]? = w2.heap[gx]? → (w'.cell? ⟨gx, 3, none⟩ = some (.string ⟨b.text.toArray⟩) ∧ w'.cell? ⟨gx, 0, none⟩ = some (.slice a1 n1 m1)) := by
      intro w' hb'
      obtain ⟨⟨i0, i1, i2, i3, i4⟩, -⟩ := cells5 (hb'.trans HX2.out)
      rw [HTX.out] at i3
      exact ⟨i3, i0⟩
    have HS := Lib.hid hS
    clear hS
    go_wp2_with fail
    go_region_held3 (fun w' => w'.cell? ⟨gx, 3, none⟩ = some (.string ⟨b.text.toArray⟩) ∧ w'.cell? ⟨gx, 0, none⟩ = some (.slice a1 n1 m1))
      (first
        | exact HS.out _ rfl
        | exact HS.out _ HG6.out
        | exact HS.out _ HG5.out)
      (first
        | (go_at_call 12; refine (text_walk _ g b (HBK.out.later (Below.refl w2.heap.size w2).drew)).mono ?_; rintro _ w5 ⟨rfl, hbk5, hf5⟩; have HBK5 := Lib.hid hbk5; have HF5 := Lib.hid ((HBK.out.frame (Below.refl w2.heap.size w2).drew).trans hf5); have HG5 := Lib.hid ((box_frame HBK.out HF5.out HX2.out).trans HX2.out.symm); clear hbk5 hf5)
        | (go_at_call 17; refine (values_walk w5 g b HBK5.out).mono ?_; rintro _ w6 ⟨⟨vv, rfl, ho6⟩, hb6⟩; have HV6 := Lib.hid (HasInts.of_own ho6).2; have HBL6 := Lib.hid hb6; have HG6 := Lib.hid ((hb6.block gx (by have h1 := HG5.out; rw [HX2.out] at h1; exact lt_of_heap h1)).trans HG5.out); have HR6 := Lib.hid ((HR2.out.frame HBK.out HF5.out).below hb6); clear ho6 hb6)
        | (go_at_call 16; refine (ints_same vv _ (natsI b.B) w6 HV6.out HR6.out.r1).mono ?_; rintro _ w7 ⟨rfl, q7, rfl⟩)
        | (go_at_call 18; refine (waits_walk _ g b ((HBK5.out.later HBL6.out).later (below_drewN' w6 q7))).mono ?_; rw [HG.out]; rintro _ w8 ⟨rfl, rfl⟩))
    have hfin1 := HB2.out.trans (HF5.out.below _ hWg)
    have hfin2 := hfin1.trans (HBL6.out.mono hfin1.size)
    have HFIN := Lib.hid (hfin2.trans ((below_drewN' w6 q7).mono hfin2.size))
    clear hfin1 hfin2
    go_wp2_with fail
    go_ret
    exact ⟨rfl, HFIN.out⟩

end Go.Proofs.YtfofepmkjjeldaaGreatDoor
