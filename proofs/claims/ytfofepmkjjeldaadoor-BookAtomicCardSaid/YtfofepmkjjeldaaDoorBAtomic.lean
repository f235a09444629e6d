/- The walk of BookAtomic. -/
import Derived.Test.YtfofepmkjjeldaaDoorBookTwo
import Derived.Test.YtfofepmkjjeldaaDoorAtomicMath
import Derived.Test.YtfofepmkjjeldaaDoorReadRows
import Derived.Deep.RegionHeld3
namespace Go.Proofs.YtfofepmkjjeldaaDoor
open Go.RowKit

theorem count_step (l : List UInt8) (j : Nat) (h : j < l.length) : (l.take (j + 1)).count 10 = (l.take j).count 10 + if l[j] = 10 then 1 else 0 := by
  rw [List.take_succ_eq_append_getElem h, List.count_append]
  congr 1
  by_cases h1 : l[j] = 10
  · rw [if_pos h1, h1]; rfl
  · rw [if_neg h1, List.count_eq_zero_of_not_mem (by simp only [List.mem_singleton]; exact fun e => h1 e.symm)]
theorem count_le (l : List UInt8) (k : Nat) : (l.take k).count 10 ≤ k := Nat.le_trans List.count_le_length (by rw [List.length_take]; omega)

theorem extract_take (l : List UInt8) (n : Nat) : (⟨l.toArray⟩ : ByteArray).extract 0 n = ⟨(l.take n).toArray⟩ := by
  apply ByteArray.ext
  rw [ByteArray.data_extract]
  simp

/-- the law's state in its second loop -/
structure AtomR (W w : World) (go gb : Nat) (o c : Bk) (rs : List (List Int)) (k lines : Nat) : Prop where
  two : Two w go gb o c
  is : c = (rs.take k).foldl stepB Bk.new
  le : c.T.length ≤ lines
  below : Below W.heap.size W w

set_option maxRecDepth 100000 in
set_option maxHeartbeats 8000000 in
theorem batomic_walk (v0 : Value) (n0 : Int) (W : World) {rs : List (List Int)} (hv1 : RowsArg W v0 rs) (_ : -9223372036854775808 ≤ n0 ∧ n0 ≤ 9223372036854775807) (hE : Env W.heap.size W) :
    Calls Tryd.prog 4 #[v0, .int .i64 n0] W fun e w' => e = .returned (.bool true) ∧ Below W.heap.size W w' := by
  have hv0 := hv1.1
  clear hv1
  have HV := Lib.hid hv0
  have HE := Lib.hid hE
  clear hE
  obtain ⟨la, nr, lcap, rfl, hnr, hnc, hcm⟩ : ∃ la n lcap, v0 = .slice la n lcap ∧ n = rs.length ∧ n ≤ lcap ∧ lcap ≤ maxLen := by
    obtain ⟨a, cap, h, h1, h2, -⟩ := hv0
    exact ⟨a, rs.length, cap, h, rfl, h1, h2⟩
  have hnm : nr ≤ 9223372036854775807 := by unfold maxLen at hcm; omega
  have HN := Lib.hid hnr
  clear hv0 hnr hnc hcm
  go_enter Tryd.func4, Tryd.ntmps4
  go_wp2_with fail
  refine (fact_walk W HE.out.pow).mono ?_
  rintro _ w1 ⟨rfl, hb1⟩
  have HB1 := Lib.hid hb1
  have HV1 := Lib.hid (HV.out.below hb1)
  have HE1 := Lib.hid (HE.out.on hb1)
  clear hb1
  go_wp2_with fail
  refine (told_walk (.slice la nr lcap) w1 HV1.out (fun w' hb => HE1.out.pow w' (hb.mono HB1.out.size))).mono ?_
  rintro _ w2 ⟨g, rfl, hbk2, hg2, hb2⟩
  have hWg : W.heap.size ≤ g := by have := HB1.out.size; omega
  have HB2 := Lib.hid (HB1.out.trans (hb2.mono HB1.out.size))
  obtain ⟨b, hb⟩ : ∃ b, b = toldB rs := ⟨_, rfl⟩
  rw [← hb] at hbk2
  have HGD := Lib.hid (toldB_good rs)
  rw [← hb] at HGD
  have HBT := Lib.hid hb
  have HBK2 := Lib.hid hbk2
  clear hbk2 hb2 hb hg2
  go_wp2_with fail
  refine (text_walk w2 g b HBK2.out).mono ?_
  rintro _ w3 ⟨rfl, hbk3, hf3⟩
  have HBK3 := Lib.hid hbk3
  have HB3 := Lib.hid (HB2.out.trans (hf3.below _ hWg))
  have HE3 := Lib.hid (HE.out.on HB3.out)
  obtain ⟨tx, htx⟩ := named b.text
  rw [← htx]
  have hts : tx.size = b.text.length := by rw [htx]; exact List.size_toArray
  have htl : tx.size ≤ 1020 := by rw [hts]; exact Bk.text_small HGD.out.1
  have HTX := Lib.hid htx
  have HTS := Lib.hid hts
  clear hbk3 hf3 htx hts
  by_cases hn : 0 ≤ n0 ∧ n0 ≤ (tx.size : Int)
  · obtain ⟨n, rfl⟩ : ∃ n : Nat, n0 = n := ⟨n0.toNat, by omega⟩
    have hnt : n ≤ tx.size := by omega
    clear hn
    have q1 : decide ((n : Int) < 0) = false := decide_eq_false (by omega)
    have q2 : decide ((tx.size : Int) < (n : Int)) = false := decide_eq_false (by omega)
    have q2' : decide (tx.size < n) = false := decide_eq_false (by omega)
    go_wp2_with fail
    go_loop [7, 8] (fun ln ix => ∃ k : Nat, k ≤ n ∧ ix = .int .i64 k ∧ ln = .int .i64 (((b.text.take k).count 10 : Nat) : Int)) (fun _ ix => n - (intOf ix).toNat)
    case atStart => exact ⟨0, Nat.zero_le _, rfl, rfl⟩
    case round =>
      obtain ⟨k, hk, rfl, rfl⟩ := hrel
      have hck := count_le b.text k
      by_cases hlt : k < n
      · have q3 : decide (k < n) = true := decide_eq_true hlt
        have hkt : k < tx.size := by omega
        have hkl : k < b.text.length := by have := HTS.out; omega
        have hst := count_step b.text k hkl
        have hcc : b.text[k] = tx[k] := by
          have h1 : tx[k] = tx.data.toList[k]'(by simpa using hkt) := rfl
          rw [h1]
          congr 1
          rw [HTX.out]
        rw [hcc] at hst
        obtain ⟨m, hm⟩ : ∃ m, m = (b.text.take k).count 10 := ⟨_, rfl⟩
        rw [← hm] at hst hck ⊢
        have HST := Lib.hid hst
        clear hst hcc hm
        by_cases hc : tx[k] = 10
        · have q4 : (((tx[k]).toNat : Int) == 10) = true := by rw [hc]; rfl
          have HFIN : Hid (((b.text.take (k + 1)).count 10 : Nat) = m + 1) := Lib.hid (by rw [HST.out, if_pos hc])
          clear HST hc
          go_wp2_with fail
          go_round
          case rel => exact ⟨k + 1, by omega, by go_num, by rw [HFIN.out]; go_num⟩
          case measure => simp [intOf]; omega
        · have q4 : (((tx[k]).toNat : Int) == 10) = false := beq_eq_false_iff_ne.2 (fun e => hc (UInt8.toNat_inj.1 (by have h : (10 : UInt8).toNat = 10 := rfl; rw [h]; omega)))
          have HFIN : Hid (((b.text.take (k + 1)).count 10 : Nat) = m) := Lib.hid (by rw [HST.out, if_neg hc, Nat.add_zero])
          clear HST hc
          go_wp2_with fail
          go_round
          case rel => exact ⟨k + 1, by omega, by go_num, by rw [HFIN.out]⟩
          case measure => simp [intOf]; omega
      · obtain rfl : k = n := by omega
        have q3 : decide (k < k) = false := decide_eq_false (by omega)
        obtain ⟨c, hc⟩ := front_is HGD.out.1 HGD.out.2 k
        have HC := Lib.hid hc
        obtain ⟨lines, hlines⟩ : ∃ m, m = (b.text.take k).count 10 := ⟨_, rfl⟩
        rw [← hlines] at hck ⊢
        have HLI := Lib.hid hlines
        have hsm : (b.text.take k).length ≤ 1000000 := by rw [List.length_take]; omega
        have HOW := Lib.hid (open_walk (b.text.take k) w3 W.heap.size HB3.out.size HE3.out hsm)
        have hex : (⟨(b.text.take k).toArray⟩ : ByteArray) = tx.extract 0 k := by rw [HTX.out]; exact (extract_take _ _).symm
        rw [hex] at HOW
        obtain ⟨ty, hty⟩ : ∃ y, y = tx.extract 0 k := ⟨_, rfl⟩
        have HTY := Lib.hid hty
        have hk1 : (0 : Int) ≤ (k : Int) := by omega
        have hk2 : (k : Int) ≤ (tx.size : Int) := by omega
        clear hc hsm hex hlines hty
        go_wp2_with fail
        refine HOW.out.mono ?_
        rintro e w5 ⟨⟨pt, rfl, hres⟩, hb5⟩
        rw [HC.out.opened] at hres
        obtain ⟨go, rfl, hgo, hbko⟩ := hres
        rw [HC.out.many, HC.out.err, ← HLI.out]
        rw [show errV ((0 : Nat) : Int) = .nilIface from rfl]
        have HBO := Lib.hid hbko
        have HB5 := Lib.hid (HB3.out.trans (hb5.mono HB3.out.size))
        have hWo : W.heap.size ≤ go := Nat.le_trans HB3.out.size hgo
        clear hb5 hbko hgo HOW
        go_wp2_with fail
        refine (new_walk _).mono ?_
        rintro _ w6 ⟨rfl, ⟨hbk6, -⟩, hb6⟩
        obtain ⟨gb, hgb⟩ : ∃ y, y = w5.heap.size := ⟨_, rfl⟩
        rw [← hgb] at hbk6 ⊢
        have hWb : W.heap.size ≤ gb := by rw [hgb]; exact HB5.out.size
        have HT6 := Lib.hid (Two.mk_new HBO.out hb6 hbk6 (Nat.le_of_eq hgb.symm))
        have HB6 := Lib.hid (HB5.out.trans (hb6.mono HB5.out.size))
        clear hbk6 hb6 hgb
        go_wp2_with fail
        go_loopw [13, 14] (fun hd ix wr => ∃ (q : Nat) (a : Bk), q ≤ 70 ∧ q ≤ nr ∧ ix = .int .i64 q ∧ hd = .int .i64 (a.T.length : Nat) ∧ AtomR W wr go gb c.whole a rs q lines) (fun _ ix _ => 70 - (intOf ix).toNat)
        case atStart => exact ⟨0, Bk.new, by omega, Nat.zero_le _, rfl, rfl, HT6.out, rfl, Nat.zero_le _, HB6.out⟩
        case round =>
          obtain ⟨q, a, hq70, hqn, rfl, rfl, hR⟩ := hrel
          have hcl := hR.le
          have HR := Lib.hid hR
          have HOK := Lib.hid (foldB_good (rs.take q) ⟨Bk.new_ok, Bk.told_new⟩)
          rw [← hR.is] at HOK
          have hl1020 : lines ≤ 1020 := by omega
          obtain ⟨m, hm⟩ : ∃ m, m = a.T.length := ⟨_, rfl⟩
          rw [← hm] at hcl ⊢
          have HM := Lib.hid hm
          clear hm hR
          by_cases hend : q < nr ∧ q < 70 ∧ m < lines
          · obtain ⟨he1, he2, he3⟩ := hend
            have p1 : decide (q < nr) = true := decide_eq_true he1
            have p2 : decide ((q : Int) < 70) = true := decide_eq_true (by omega)
            have p3 : decide (m < lines) = true := decide_eq_true he3
            obtain ⟨r, hr⟩ : ∃ r, rs[q]? = some r := ⟨_, List.getElem?_eq_getElem (by have := HN.out; omega)⟩
            obtain ⟨b0, o0, rv, rfl, hb0, hc0, hrv⟩ := HV.out.liesT hr
            obtain ⟨ra, ln, rcap, rfl, hln, hlm⟩ := hrv.slT
            have hc0w := (HR.out.below.cell (p := ⟨b0, o0 + q, none⟩) hb0).trans hc0
            have hstep : (rs.take (q + 1)).foldl stepB Bk.new = stepB a r := by
              rw [List.take_succ_eq_append_getElem (List.getElem?_eq_some_iff.1 hr).1, (List.getElem?_eq_some_iff.1 hr).2, List.foldl_append, ← HR.out.is]
              rfl
            have HSTEP := Lib.hid hstep
            have HRV := Lib.hid hrv
            have HLN := Lib.hid hln
            clear hr hc0 hrv hln hb0 hstep
            by_cases h2 : ln = 2
            · subst h2
              obtain ⟨p, x, rfl⟩ : ∃ p x, r = [p, x] := by
                have := HLN.out
                match r, this with
                | [p, x], _ => exact ⟨p, x, rfl⟩
              obtain ⟨rb, ro, rfl, hrb, hcp⟩ := HRV.out.liesT (j := 0) (x := p) rfl
              obtain ⟨rb', ro', e', -, hcx⟩ := HRV.out.liesT (j := 1) (x := x) rfl
              cases e'
              rw [Nat.add_zero] at hcp
              have HS : Hid (∀ w' : World, Below W.heap.size W w' → w'.cell? ⟨rb, ro, none⟩ = some (.int .i64 p) ∧ w'.cell? ⟨rb, ro + 1, none⟩ = some (.int .i64 x)) :=
                Lib.hid (fun w' hb => ⟨(hb.cell (p := ⟨rb, ro, none⟩) hrb).trans hcp, (hb.cell (p := ⟨rb, ro + 1, none⟩) hrb).trans hcx⟩)
              have HWR := Lib.hid (show (rs.take (q + 1)).foldl stepB Bk.new = a.write p x from HSTEP.out)
              clear hcp hcx
              by_cases hE : a.writeE p x = 0
              · have HEV : Hid (Value.nilIface = errV (a.writeE p x : Nat)) := Lib.hid (by rw [hE]; rfl)
                have HLE := Lib.hid (write_yes hE)
                clear hE
                go_wp2_with fail
                go_region_held3 (fun w' => w'.cell? ⟨rb, ro, none⟩ = some (.int .i64 p) ∧ w'.cell? ⟨rb, ro + 1, none⟩ = some (.int .i64 x))
                  (first
                    | exact HS.out _ HR.out.below
                    | exact HS.out _ HR.out.below.drew
                    | exact HS.out _ HB7.out)
                  (first
                    | (go_at_call 11; refine (bwrite_walk _ W.heap.size gb a p x (HR.out.two.two.later (Below.refl wr.heap.size wr).drew) hWb (HE.out.on HR.out.below.drew).pow HOK.out.1).mono ?_; rintro _ w7 ⟨rfl, hbk7, hf7⟩; rw [← HEV.out]; have HT7 := Lib.hid ((HR.out.two.later (Below.refl wr.heap.size wr).drew).second hbk7 hf7); have HB7 := Lib.hid (HR.out.below.drew.trans (hf7.below _ hWb)); clear hbk7 hf7))
                go_wp2_with fail
                go_roundw
                case rel => exact ⟨q + 1, a.write p x, by omega, by omega, by go_num, by rw [HLE.out, ← HM.out]; go_num, HT7.out, HWR.out.symm, by rw [HLE.out, ← HM.out]; omega, HB7.out⟩
                case measure => simp [intOf]; omega
              · obtain ⟨pv, hpv⟩ : ∃ pv, errV (a.writeE p x : Nat) = .iface 68 pv := ⟨_, if_neg (by omega)⟩
                have HEV := Lib.hid hpv.symm
                have HSA := Lib.hid (write_no hE)
                clear hE hpv
                go_wp2_with fail
                go_region_held3 (fun w' => w'.cell? ⟨rb, ro, none⟩ = some (.int .i64 p) ∧ w'.cell? ⟨rb, ro + 1, none⟩ = some (.int .i64 x))
                  (first
                    | exact HS.out _ HR.out.below
                    | exact HS.out _ HR.out.below.drew
                    | exact HS.out _ HB7.out)
                  (first
                    | (go_at_call 11; refine (bwrite_walk _ W.heap.size gb a p x (HR.out.two.two.later (Below.refl wr.heap.size wr).drew) hWb (HE.out.on HR.out.below.drew).pow HOK.out.1).mono ?_; rintro _ w7 ⟨rfl, hbk7, hf7⟩; rw [← HEV.out]; have HT7 := Lib.hid ((HR.out.two.later (Below.refl wr.heap.size wr).drew).second hbk7 hf7); have HB7 := Lib.hid (HR.out.below.drew.trans (hf7.below _ hWb)); clear hbk7 hf7))
                rw [HSA.out] at HT7 HWR
                go_wp2_with fail
                go_roundw
                case rel => exact ⟨q + 1, a, by omega, by omega, by go_num, by rw [← HM.out], HT7.out, HWR.out.symm, by rw [← HM.out]; omega, HB7.out⟩
                case measure => simp [intOf]; omega
            · have q5 : ((ln : Int) == 2) = false := beq_eq_false_iff_ne.2 (by omega)
              by_cases h1 : ln = 1
              · subst h1
                have HWR : Hid ((rs.take (q + 1)).foldl stepB Bk.new = a.done) := Lib.hid (by rw [HSTEP.out]; unfold stepB; rw [← HLN.out, if_neg (by decide), if_pos rfl])
                go_wp2_with fail
                go_quiet (fail)
                go_wp2_with fail
                refine (bdo_walk _ W.heap.size gb a (HR.out.two.two.later (below_drewN' wr _)) hWb (HE.out.on (HR.out.below.trans ((below_drewN' wr _).mono HR.out.below.size))).pow HOK.out.1).mono ?_
                rintro _ w7 ⟨rfl, hbk7, hf7⟩
                have HT7 := Lib.hid ((HR.out.two.later (below_drewN' wr _)).second hbk7 hf7)
                have HB7 := Lib.hid ((HR.out.below.trans ((below_drewN' wr _).mono HR.out.below.size)).trans (hf7.below _ hWb))
                clear hbk7 hf7
                obtain ⟨nd, hnd⟩ : ∃ n : Int, n = (a.doneN : Nat) := ⟨_, rfl⟩
                rw [← hnd]
                clear hnd
                by_cases hE : a.doneE = 0
                · have hev : errV (a.doneE : Nat) = .nilIface := by rw [hE]; rfl
                  rw [hev]
                  have HLE := Lib.hid (done_yes hE)
                  clear hE hev
                  go_wp2_with fail
                  go_roundw
                  case rel => exact ⟨q + 1, a.done, by omega, by omega, by go_num, by rw [HLE.out, ← HM.out]; go_num, HT7.out, HWR.out.symm, by rw [HLE.out, ← HM.out]; omega, HB7.out⟩
                  case measure => simp [intOf]; omega
                · obtain ⟨pv, hpv⟩ : ∃ pv, errV (a.doneE : Nat) = .iface 68 pv := ⟨_, if_neg (by omega)⟩
                  rw [hpv]
                  have HSA := Lib.hid (done_no hE)
                  clear hE hpv
                  rw [HSA.out] at HT7 HWR
                  go_wp2_with fail
                  go_roundw
                  case rel => exact ⟨q + 1, a, by omega, by omega, by go_num, by rw [← HM.out], HT7.out, HWR.out.symm, by rw [← HM.out]; omega, HB7.out⟩
                  case measure => simp [intOf]; omega
              · have q6 : ((ln : Int) == 1) = false := beq_eq_false_iff_ne.2 (by omega)
                have HWR : Hid ((rs.take (q + 1)).foldl stepB Bk.new = a) := Lib.hid (by rw [HSTEP.out]; unfold stepB; rw [← HLN.out, if_neg h2, if_neg h1])
                go_wp2_with fail
                go_quiet (fail)
                go_wp2_with fail
                go_roundw
                case rel => exact ⟨q + 1, a, by omega, by omega, by go_num, by rw [← HM.out], HR.out.two.later (below_drewN' wr _), HWR.out.symm, by rw [← HM.out]; omega, HR.out.below.trans ((below_drewN' wr _).mono HR.out.below.size)⟩
                case measure => simp [intOf]; omega
          · have hml : m = lines := by
              refine Classical.byContradiction fun hne => ?_
              have hfin : rs.take q = rs.take 70 := by
                by_cases hk : q = 70
                · rw [hk]
                · rw [List.take_of_length_le (by have := HN.out; omega), List.take_of_length_le (by have := HN.out; omega)]
              have h1 : a = b := by rw [HR.out.is, HBT.out, hfin]; rfl
              have h2 := HC.out.lines
              rw [← HLI.out, ← h1, ← HM.out] at h2
              omega
            have hcase : decide (q < nr) = false ∨ (decide (q < nr) = true ∧ decide ((q : Int) < 70) = false) ∨ (decide (q < nr) = true ∧ decide ((q : Int) < 70) = true ∧ decide (lines < lines) = false) := by
              by_cases h1 : q < nr
              · by_cases h2 : q < 70
                · exact .inr (.inr ⟨decide_eq_true h1, decide_eq_true (by omega), decide_eq_false (by omega)⟩)
                · exact .inr (.inl ⟨decide_eq_true h1, decide_eq_false (by omega)⟩)
              · exact .inl (decide_eq_false h1)
            subst hml
            obtain ⟨hac, hfr⟩ := HC.out.same a HOK.out.2 (by rw [HR.out.is, HBT.out]; exact toldB_T rs hq70) (by rw [← HM.out, HLI.out])
            obtain ⟨tz, htz⟩ := named a.whole.text
            have hzs : tz.size = a.whole.text.length := by rw [htz]; exact List.size_toArray
            have hzk : tz.size ≤ k := by
              have h1 := hfr.length_le
              rw [List.length_take] at h1
              omega
            have hzx : tx.extract 0 tz.size = tz := by
              rw [HTX.out, extract_take, htz]
              have h1 := List.prefix_iff_eq_take.1 hfr
              rw [List.take_take, Nat.min_eq_left (by omega)] at h1
              rw [show (⟨a.whole.text.toArray⟩ : ByteArray).size = a.whole.text.length from List.size_toArray, ← h1]
            rw [← hac] at HR
            have HTZ := Lib.hid htz
            have z1 : (0 : Int) ≤ (tz.size : Int) := by omega
            have z2 : (tz.size : Int) ≤ (tx.size : Int) := by omega
            have z3 : decide ((tz.size : Int) ≤ (k : Int)) = true := decide_eq_true (by omega)
            have z4 : decide (tz.size ≤ k) = true := decide_eq_true (by omega)
            have HEX := Lib.hid hzx
            clear hend hac hfr htz hzs hzx
            rcases hcase with p1 | ⟨p1, p2⟩ | ⟨p1, p2, p3⟩
            all_goals
              go_wp2_with fail
              refine (vals_walk wr go a.whole HR.out.two.one).mono ?_
              rintro _ w8 ⟨⟨v3, rfl, hv3⟩, hb8⟩
              have HV3 := Lib.hid hv3
              have HT8 := Lib.hid (HR.out.two.later hb8)
              have HB8 := Lib.hid (HR.out.below.trans (hb8.mono HR.out.below.size))
              clear hv3 hb8
              go_wp2_with fail
              refine (vals_walk w8 gb a HT8.out.two).mono ?_
              rintro _ w9 ⟨⟨v4, rfl, hv4⟩, hb9⟩
              have HV4 := Lib.hid hv4
              have HV39 := Lib.hid (HV3.out.below hb9)
              have HT9 := Lib.hid (HT8.out.later hb9)
              have HB9 := Lib.hid (HB8.out.trans (hb9.mono HB8.out.size))
              clear hv4 hb9
              go_wp2_with fail
              refine (ints_eq v3 v4 _ _ w9 HV39.out HV4.out rfl).mono ?_
              rintro _ w10 ⟨rfl, hb10⟩
              have HT10 := Lib.hid (HT9.out.later hb10)
              have HB10 := Lib.hid (HB9.out.trans (hb10.mono HB9.out.size))
              clear hb10
              go_wp2_with fail
              refine (waits_walk w10 go a.whole HT10.out.one).mono ?_
              rintro _ w11 ⟨rfl, rfl⟩
              rw [show (a.whole.G.length : Nat) = 0 from rfl]
              go_wp2_with fail
              refine (text_walk w10 go a.whole HT10.out.one).mono ?_
              rintro _ w12 ⟨rfl, hbk12, hf12⟩
              rw [← HTZ.out]
              have HT12 := Lib.hid (HT10.out.first hbk12 hf12)
              have HB12 := Lib.hid (HB10.out.trans (hf12.below _ hWo))
              clear hbk12 hf12
              go_wp2_with fail
              refine (text_walk w12 go a.whole HT12.out.one).mono ?_
              rintro _ w13 ⟨rfl, hbk13, hf13⟩
              rw [← HTZ.out]
              have HT13 := Lib.hid (HT12.out.first hbk13 hf13)
              have HB13 := Lib.hid (HB12.out.trans (hf13.below _ hWo))
              clear hbk13 hf13
              go_wp2_with fail
              refine (text_walk w13 go a.whole HT13.out.one).mono ?_
              rintro _ w14 ⟨rfl, hbk14, hf14⟩
              rw [← HTZ.out]
              have HB14 := Lib.hid (HB13.out.trans (hf14.below _ hWo))
              have hzx := HEX.out
              clear hbk14 hf14
              go_wp2_with fail
              go_ret
              exact ⟨rfl, HB14.out⟩
  · have hcase : decide (n0 < 0) = true ∨ (decide (n0 < 0) = false ∧ decide ((tx.size : Int) < n0) = true) := by
      by_cases h : n0 < 0
      · exact .inl (decide_eq_true h)
      · exact .inr ⟨decide_eq_false h, decide_eq_true (by omega)⟩
    clear hn
    rcases hcase with q1 | ⟨q1, q2⟩
    all_goals
      go_wp2_with fail
      go_ret
      exact ⟨rfl, HB3.out⟩

end Go.Proofs.YtfofepmkjjeldaaDoor
