/- The walk of BookAgain. -/
import Derived.Test.YtfofepmkjjeldaaDoorBookTwo
import Derived.Test.YtfofepmkjjeldaaDoorReadRows
import Derived.Deep.RegionHeld3
namespace Go.Proofs.YtfofepmkjjeldaaDoor
open Go.RowKit

set_option maxRecDepth 100000 in
set_option maxHeartbeats 8000000 in
theorem bagain_walk (v0 : Value) (p x : Int) (W : World) {rs : List (List Int)} (hv0 : RowsArg W v0 rs) (_ : -9223372036854775808 ≤ p ∧ p ≤ 9223372036854775807) (_ : -9223372036854775808 ≤ x ∧ x ≤ 9223372036854775807) (hE : Env W.heap.size W) :
    Calls Tryd.prog 5 #[v0, .int .i64 p, .int .i64 x] W fun e w' => e = .returned (.bool true) ∧ Below W.heap.size W w' := by
  have HV := Lib.hid hv0.1
  have HE := Lib.hid hE
  clear hv0 hE
  go_enter Tryd.func5, Tryd.ntmps5
  go_wp2_with fail
  refine (fact_walk W HE.out.pow).mono ?_
  rintro _ w1 ⟨rfl, hb1⟩
  have HB1 := Lib.hid hb1
  have HV1 := Lib.hid (HV.out.below hb1)
  have HE1 := Lib.hid (HE.out.on hb1)
  clear hb1
  go_wp2_with fail
  refine (told_walk v0 w1 HV1.out (fun w' hb => HE1.out.pow w' (hb.mono HB1.out.size))).mono ?_
  rintro _ w2 ⟨g, rfl, hbk2, hg2, hb2⟩
  have hWg : W.heap.size ≤ g := by have := HB1.out.size; omega
  have HB2 := Lib.hid (HB1.out.trans (hb2.mono HB1.out.size))
  have HE2 := Lib.hid (HE.out.on HB2.out)
  have HBK2 := Lib.hid hbk2
  have HGD := Lib.hid (toldB_good rs)
  clear hbk2 hb2
  go_wp2_with fail
  refine (bdo_walk w2 W.heap.size g (toldB rs) HBK2.out hWg HE2.out.pow HGD.out.1).mono ?_
  rintro _ w3 ⟨rfl, hbk3, hf3⟩
  obtain ⟨c, hc⟩ : ∃ c, c = (toldB rs).done := ⟨_, rfl⟩
  rw [← hc] at hbk3
  have HGC := Lib.hid (show c.ok ∧ c.told from by rw [hc]; exact ⟨HGD.out.1.done, HGD.out.2.done⟩)
  have HBK3 := Lib.hid hbk3
  have HB3 := Lib.hid (HB2.out.trans (hf3.below _ hWg))
  obtain ⟨v1, hv1⟩ : ∃ v, v = Value.int .i64 ((toldB rs).doneN : Nat) := ⟨_, rfl⟩
  obtain ⟨v2, hv2⟩ : ∃ v, v = errV ((toldB rs).doneE : Nat) := ⟨_, rfl⟩
  rw [← hv1, ← hv2]
  clear hbk3 hf3 hc hv1 hv2
  go_wp2_with fail
  refine (text_walk w3 g c HBK3.out).mono ?_
  rintro _ w4 ⟨rfl, hbk4, hf4⟩
  have HBK4 := Lib.hid hbk4
  have HB4 := Lib.hid (HB3.out.trans (hf4.below _ hWg))
  have HE4 := Lib.hid (HE.out.on HB4.out)
  clear hbk4 hf4
  have hsm : c.text.length ≤ 1000000 := by have := Bk.text_small HGC.out.1; omega
  have HOW := Lib.hid (open_walk c.text w4 W.heap.size HB4.out.size HE4.out hsm)
  obtain ⟨tx, htx⟩ := named c.text
  rw [← htx] at HOW ⊢
  have HTX := Lib.hid htx
  clear hsm htx
  go_wp2_with fail
  refine HOW.out.mono ?_
  rintro e w5 ⟨⟨pt, rfl, hres⟩, hb5⟩
  obtain ⟨o1, o2, o3⟩ := open_told HGC.out
  rw [o1] at hres
  obtain ⟨go, rfl, hgo, hbko⟩ := hres
  rw [o2, o3]
  rw [show errV ((0 : Nat) : Int) = .nilIface from rfl]
  have HT5 := Lib.hid (Two.mk_new HBK4.out hb5 hbko hgo)
  have HB5 := Lib.hid (HB4.out.trans (hb5.mono HB4.out.size))
  have hWo : W.heap.size ≤ go := Nat.le_trans HB4.out.size hgo
  clear hb5 hbko hgo o1 o2 o3 HOW
  obtain ⟨kn, hkn⟩ : ∃ kn : Int, kn = (c.T.length : Nat) := ⟨_, rfl⟩
  rw [← hkn]
  clear hkn
  go_wp2_with fail
  refine (waits_walk w5 g c HT5.out.one).mono ?_
  rintro _ w6 ⟨rfl, rfl⟩
  obtain ⟨m, hm⟩ : ∃ m, m = c.G.length := ⟨_, rfl⟩
  rw [← hm]
  by_cases h0 : 0 < m
  · have HM := Lib.hid hm
    have q0 : decide ((0 : Int) < (m : Int)) = true := decide_eq_true (by omega)
    clear hm
    go_wp2_with fail
    refine (vals_walk w5 go c.whole HT5.out.two).mono ?_
    rintro _ w6 ⟨⟨v3, rfl, hv3⟩, hb6⟩
    have HV3 := Lib.hid hv3
    have HT6 := Lib.hid (HT5.out.later hb6)
    have HB6 := Lib.hid (HB5.out.trans (hb6.mono HB5.out.size))
    clear hv3 hb6
    go_wp2_with fail
    refine (vals_walk w6 g c HT6.out.one).mono ?_
    rintro _ w7 ⟨⟨v4, rfl, hv4⟩, hb7⟩
    have HV4 := Lib.hid hv4
    have HV37 := Lib.hid (HV3.out.below hb7)
    have HT7 := Lib.hid (HT6.out.later hb7)
    have HB7 := Lib.hid (HB6.out.trans (hb7.mono HB6.out.size))
    clear hv4 hb7
    go_wp2_with fail
    refine (ints_eq v3 v4 _ _ w7 HV37.out HV4.out rfl).mono ?_
    rintro _ w8 ⟨rfl, hb8⟩
    have HT8 := Lib.hid (HT7.out.later hb8)
    have HB8 := Lib.hid (HB7.out.trans (hb8.mono HB7.out.size))
    clear hb8
    go_wp2_with fail
    refine (waits_walk w8 go c.whole HT8.out.two).mono ?_
    rintro _ w9 ⟨rfl, rfl⟩
    rw [show (c.whole.G.length : Nat) = 0 from rfl]
    go_wp2_with fail
    go_ret
    exact ⟨rfl, HB8.out⟩
  · have q0 : decide ((0 : Int) < (m : Int)) = false := decide_eq_false (by omega)
    have hG : c.G = [] := List.length_eq_zero_iff.1 (by omega)
    have hwh : c.whole = c := whole_same hG
    rw [hwh] at HT5
    clear hm hG hwh
    go_wp2_with fail
    refine (text_walk w5 go c HT5.out.two).mono ?_
    rintro _ w6 ⟨rfl, hbk6, hf6⟩
    rw [← HTX.out]
    have HT6 := Lib.hid (HT5.out.second hbk6 hf6)
    have HB6 := Lib.hid (HB5.out.trans (hf6.below _ hWo))
    clear hbk6 hf6
    go_wp2_with fail
    refine (text_walk w6 g c HT6.out.one).mono ?_
    rintro _ w7 ⟨rfl, hbk7, hf7⟩
    rw [← HTX.out]
    have HT7 := Lib.hid (HT6.out.first hbk7 hf7)
    have HB7 := Lib.hid (HB6.out.trans (hf7.below _ hWg))
    clear hbk7 hf7
    go_wp2_with fail
    refine (vals_walk w7 go c HT7.out.two).mono ?_
    rintro _ w8 ⟨⟨v3, rfl, hv3⟩, hb8⟩
    have HV3 := Lib.hid hv3
    have HT8 := Lib.hid (HT7.out.later hb8)
    have HB8 := Lib.hid (HB7.out.trans (hb8.mono HB7.out.size))
    clear hv3 hb8
    go_wp2_with fail
    refine (vals_walk w8 g c HT8.out.one).mono ?_
    rintro _ w9 ⟨⟨v4, rfl, hv4⟩, hb9⟩
    have HV4 := Lib.hid hv4
    have HV39 := Lib.hid (HV3.out.below hb9)
    have HT9 := Lib.hid (HT8.out.later hb9)
    have HB9 := Lib.hid (HB8.out.trans (hb9.mono HB8.out.size))
    clear hv4 hb9
    go_wp2_with fail
    refine (ints_eq v3 v4 _ _ w9 HV39.out HV4.out rfl).mono ?_
    rintro _ w10 ⟨rfl, hb10⟩
    have HT10 := Lib.hid (HT9.out.later hb10)
    have HB10 := Lib.hid (HB9.out.trans (hb10.mono HB9.out.size))
    clear hb10
    go_wp2_with fail
    refine (bwrite_walk w10 W.heap.size g c p x HT10.out.one hWg (HE.out.on HB10.out).pow HGC.out.1).mono ?_
    rintro _ w11 ⟨rfl, hbk11, hf11⟩
    obtain ⟨d, hd⟩ : ∃ d, d = c.write p x := ⟨_, rfl⟩
    rw [← hd] at hbk11
    have HDO : Hid d.ok := Lib.hid (by rw [hd]; exact HGC.out.1.write p x)
    have HT11 := Lib.hid (HT10.out.first hbk11 hf11)
    have HB11 := Lib.hid (HB10.out.trans (hf11.below _ hWg))
    have HD := Lib.hid hd
    obtain ⟨ev, hev⟩ : ∃ v, v = errV (c.writeE p x : Nat) := ⟨_, rfl⟩
    rw [← hev]
    have HEV := Lib.hid hev
    clear hbk11 hf11 hd hev
    go_wp2_with fail
    refine (bwrite_walk w11 W.heap.size go c p x HT11.out.two hWo (HE.out.on HB11.out).pow HGC.out.1).mono ?_
    rintro _ w12 ⟨rfl, hbk12, hf12⟩
    rw [← HD.out] at hbk12
    rw [← HEV.out]
    have HT12 := Lib.hid (HT11.out.second hbk12 hf12)
    have HB12 := Lib.hid (HB11.out.trans (hf12.below _ hWo))
    clear hbk12 hf12
    have hec : ev = .nilIface ∨ ∃ pv, ev = .iface 68 pv := by rw [HEV.out]; exact errV_cases _
    clear HEV
    have eqb := eqlB
    have neb := neqB
    rcases hec with rfl | ⟨pv, rfl⟩
    all_goals
      go_wp2_with fail
      go_quiet (fail)
      go_wp2_with fail
      refine (bdo_walk _ W.heap.size g d (HT12.out.later (below_drewN' w12 _)).one hWg (HE.out.on (HB12.out.trans ((below_drewN' w12 _).mono HB12.out.size))).pow HDO.out).mono ?_
      rintro _ w13 ⟨rfl, hbk13, hf13⟩
      have HT13 := Lib.hid ((HT12.out.later (below_drewN' w12 _)).first hbk13 hf13)
      have HB13 := Lib.hid ((HB12.out.trans ((below_drewN' w12 _).mono HB12.out.size)).trans (hf13.below _ hWg))
      obtain ⟨ed, hed⟩ : ∃ v, v = errV (d.doneE : Nat) := ⟨_, rfl⟩
      obtain ⟨nd, hnd⟩ : ∃ n : Int, n = (d.doneN : Nat) := ⟨_, rfl⟩
      rw [← hed, ← hnd]
      have HED := Lib.hid hed
      have HND := Lib.hid hnd
      clear hbk13 hf13 hed hnd
      go_wp2_with fail
      refine (bdo_walk w13 W.heap.size go d HT13.out.two hWo (HE.out.on HB13.out).pow HDO.out).mono ?_
      rintro _ w14 ⟨rfl, hbk14, hf14⟩
      rw [← HED.out, ← HND.out]
      have HT14 := Lib.hid (HT13.out.second hbk14 hf14)
      have HB14 := Lib.hid (HB13.out.trans (hf14.below _ hWo))
      clear hbk14 hf14
      have hec : ed = .nilIface ∨ ∃ pv, ed = .iface 68 pv := by rw [HED.out]; exact errV_cases _
      clear HED
      obtain ⟨dd, hdd⟩ : ∃ y, y = d.done := ⟨_, rfl⟩
      rw [← hdd] at HT14
      clear hdd
      obtain ⟨ty, hty⟩ := named dd.text
      have HTY := Lib.hid hty
      clear hty
      rcases hec with rfl | ⟨pv2, rfl⟩
    all_goals
      go_wp2_with fail
      go_region_held3 (fun _ => True)
        (first
          | exact trivial)
        (first
          | (go_at_call 16; refine (vals_walk _ go dd (HT14.out.later (Below.refl w14.heap.size w14).drew).two).mono ?_; rintro _ w15 ⟨⟨v5, rfl, hv5⟩, hb15⟩; have HV5 := Lib.hid hv5; have HT15 := Lib.hid ((HT14.out.later (Below.refl w14.heap.size w14).drew).later hb15); have HB15 := Lib.hid (HB14.out.drew.trans (hb15.mono HB14.out.drew.size)); clear hv5 hb15)
          | (go_at_call 16; refine (vals_walk w15 g dd HT15.out.one).mono ?_; rintro _ w16 ⟨⟨v6, rfl, hv6⟩, hb16⟩; have HV6 := Lib.hid hv6; have HV516 := Lib.hid (HV5.out.below hb16); have HT16 := Lib.hid (HT15.out.later hb16); have HB16 := Lib.hid (HB15.out.trans (hb16.mono HB15.out.size)); clear hv6 hb16)
          | (go_at_call 15; refine (ints_eq v5 v6 _ _ w16 HV516.out HV6.out rfl).mono ?_; rintro _ w17 ⟨rfl, hb17⟩; have HT17 := Lib.hid (HT16.out.later hb17); have HB17 := Lib.hid (HB16.out.trans (hb17.mono HB16.out.size)); clear hb17)
          | (go_at_call 14; refine (text_walk w17 go dd HT17.out.two).mono ?_; rintro _ w18 ⟨rfl, hbk18, hf18⟩; rw [← HTY.out]; have HT18 := Lib.hid (HT17.out.second hbk18 hf18); have HB18 := Lib.hid (HB17.out.trans (hf18.below _ hWo)); clear hbk18 hf18)
          | (go_at_call 14; refine (text_walk w18 g dd HT18.out.one).mono ?_; rintro _ w19 ⟨rfl, hbk19, hf19⟩; rw [← HTY.out]; have HB19 := Lib.hid (HB18.out.trans (hf19.below _ hWg)); clear hbk19 hf19))
      go_wp2_with fail
      go_ret
      exact ⟨rfl, HB19.out⟩

end Go.Proofs.YtfofepmkjjeldaaDoor
