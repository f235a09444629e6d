/- The walk of BookTurned. -/
import Derived.Test.YtfofepmkjjeldaaGreatDoorBookTwo
import Derived.Test.YtfofepmkjjeldaaGreatDoorAtomicMath
import Derived.Test.YtfofepmkjjeldaaGreatDoorReadRows
import Derived.Deep.RegionHeld3
import Derived.Laws.IdiomStrings
namespace Go.Proofs.YtfofepmkjjeldaaGreatDoor
open Go.RowKit

theorem count_step (l : List UInt8) (j : Nat) (h : j < l.length) : (l.take (j + 1)).count 10 = (l.take j).count 10 + if l[j] = 10 then 1 else 0 := by
  rw [List.take_succ_eq_append_getElem h, List.count_append]
  congr 1
  by_cases h1 : l[j] = 10
  · rw [if_pos h1, h1]; rfl
  · rw [if_neg h1, List.count_eq_zero_of_not_mem (by simp only [List.mem_singleton]; exact fun e => h1 e.symm)]
theorem count_le (l : List UInt8) (k : Nat) : (l.take k).count 10 ≤ k := Nat.le_trans List.count_le_length (by rw [List.length_take]; omega)

theorem byte_beq (a b : UInt8) : ((a.toNat : Int) == (b.toNat : Int)) = decide (a = b) := by
  by_cases h : a = b
  · subst h; simp
  · rw [decide_eq_false h]
    exact beq_eq_false_iff_ne.2 (fun e => h (UInt8.toNat_inj.1 (by omega)))

/-- a byte put into a text -/
theorem turned_text (l : List UInt8) (i : Nat) (c : UInt8) (h : i < l.length) : (⟨l.toArray⟩ : ByteArray).extract 0 i ++ ⟨#[c]⟩ ++ (⟨l.toArray⟩ : ByteArray).extract (i + 1) l.length = ⟨(l.set i c).toArray⟩ := by
  apply ByteArray.ext
  apply Array.toList_inj.1
  rw [ByteArray.data_append, ByteArray.data_append, ByteArray.data_extract, ByteArray.data_extract, Array.toList_append, Array.toList_append, Array.toList_extract, Array.toList_extract]
  rw [List.set_eq_take_append_cons_drop, if_pos h]
  have e : List.take (l.length - (i + 1)) (List.drop (i + 1) l) = List.drop (i + 1) l := List.take_of_length_le (by simp)
  simp [e]

set_option maxRecDepth 100000 in
set_option maxHeartbeats 8000000 in
theorem bturned_walk (v0 : Value) (i0 c0 : Int) (W : World) {rs : List (List Int)} (hv0 : RowsArg W v0 rs) (_ : -9223372036854775808 ≤ i0 ∧ i0 ≤ 9223372036854775807) (hc0 : 0 ≤ c0 ∧ c0 ≤ 255) (hH : Handled W) (hE : Env W.heap.size W) :
    Calls Tryz.prog 3 #[v0, .int .i64 i0, .int .u8 c0] W fun e w' => e = .returned (.bool true) ∧ Below W.heap.size W w' := by
  have HV := Lib.hid hv0.1
  have HH := Lib.hid hH
  have HE := Lib.hid hE
  obtain ⟨c, hc⟩ : ∃ c : UInt8, c0 = (c.toNat : Int) := ⟨UInt8.ofNat c0.toNat, by rw [UInt8.toNat_ofNat']; omega⟩
  subst hc
  clear hv0 hE hH hc0
  go_enter Tryz.func3, Tryz.ntmps3
  go_wp2_with fail
  refine (fact_walk W HE.out.pow).mono ?_
  rintro _ w1 ⟨rfl, hb1⟩
  have HB1 := Lib.hid hb1
  have HV1 := Lib.hid (HV.out.below hb1)
  have HE1 := Lib.hid (HE.out.on hb1)
  clear hb1
  go_wp2_with fail
  refine (told_walk v0 w1 HV1.out (fun w' hb => HE1.out.pow w' (hb.mono HB1.out.size))).mono ?_
  rintro _ w2 ⟨g, rfl, hbk2, hg2, hb2⟩
  have hWg : W.heap.size ≤ g := by have := HB1.out.size; omega
  have HB2 := Lib.hid (HB1.out.trans (hb2.mono HB1.out.size))
  obtain ⟨b, hb⟩ : ∃ b, b = toldB rs := ⟨_, rfl⟩
  rw [← hb] at hbk2
  have HGD := Lib.hid (toldB_good rs)
  have HLD := Lib.hid (toldB_lined rs)
  rw [← hb] at HGD HLD
  have HBK2 := Lib.hid hbk2
  clear hbk2 hb2 hb hg2
  go_wp2_with fail
  refine (text_walk w2 g b HBK2.out).mono ?_
  rintro _ w3 ⟨rfl, hbk3, hf3⟩
  have HB3 := Lib.hid (HB2.out.trans (hf3.below _ hWg))
  have HE3 := Lib.hid (HE.out.on HB3.out)
  obtain ⟨tx, htx⟩ := named b.text
  rw [← htx]
  have hts : tx.size = b.text.length := by rw [htx]; exact List.size_toArray
  have htl : tx.size ≤ 1020 := by rw [hts]; exact Bk.text_small HGD.out.1
  have HTX := Lib.hid htx
  have HTS := Lib.hid hts
  clear hbk3 hf3 htx hts
  by_cases hn : 0 ≤ i0 ∧ i0 < (tx.size : Int)
  · obtain ⟨n, rfl⟩ : ∃ n : Nat, i0 = n := ⟨i0.toNat, by omega⟩
    have hnt : n < tx.size := by omega
    clear hn
    have q1 : decide ((n : Int) < 0) = false := decide_eq_false (by omega)
    have q2 : decide ((tx.size : Int) ≤ (n : Int)) = false := decide_eq_false (by omega)
    have q2' : decide (tx.size ≤ n) = false := decide_eq_false (by omega)
    have q3 : (((tx[n]).toNat : Int) == 10) = decide (tx[n] = 10) := byte_beq (tx[n]) 10
    have q4 : ((c.toNat : Int) == 10) = decide (c = 10) := byte_beq c 10
    have q5 : (((tx[n]).toNat : Int) == (c.toNat : Int)) = decide (tx[n] = c) := byte_beq (tx[n]) c
    by_cases hall : tx[n] ≠ 10 ∧ c ≠ 10 ∧ tx[n] ≠ c
    · obtain ⟨h1, h2, h3⟩ := hall
      rw [decide_eq_false h1] at q3
      rw [decide_eq_false h2] at q4
      rw [decide_eq_false h3] at q5
      have H1 := Lib.hid h1
      have H2 := Lib.hid h2
      have H3 := Lib.hid h3
      clear h1 h2 h3
      go_wp2_with fail
      clear q3 q4 q5
      go_loop [9, 10] (fun ln ix => ∃ k : Nat, k ≤ n ∧ ix = .int .i64 k ∧ ln = .int .i64 (((b.text.take k).count 10 + 1 : Nat) : Int)) (fun _ ix => n - (intOf ix).toNat)
      case atStart => exact ⟨0, Nat.zero_le _, rfl, rfl⟩
      case round =>
        obtain ⟨k, hk, rfl, rfl⟩ := hrel
        have hck := count_le b.text k
        by_cases hlt : k < n
        · have q3 : decide (k < n) = true := decide_eq_true hlt
          have hkt : k < tx.size := by omega
          have hkl : k < b.text.length := by have := HTS.out; omega
          have hst := count_step b.text k hkl
          have hcc : b.text[k] = tx[k] := by
            have h1 : tx[k] = tx.data.toList[k]'(by simpa using hkt) := rfl
            rw [h1]
            congr 1
            rw [HTX.out]
          rw [hcc] at hst
          obtain ⟨m, hm⟩ : ∃ m, m = (b.text.take k).count 10 := ⟨_, rfl⟩
          rw [← hm] at hst hck ⊢
          have HST := Lib.hid hst
          clear hst hcc hm
          by_cases hc : tx[k] = 10
          · have q4 : (((tx[k]).toNat : Int) == 10) = true := by rw [hc]; rfl
            have HFIN : Hid (((b.text.take (k + 1)).count 10 : Nat) = m + 1) := Lib.hid (by rw [HST.out, if_pos hc])
            clear HST hc
            go_wp2_with fail
            go_round
            case rel => exact ⟨k + 1, by omega, by go_num, by rw [HFIN.out]; go_num⟩
            case measure => simp [intOf]; omega
          · have q4 : (((tx[k]).toNat : Int) == 10) = false := beq_eq_false_iff_ne.2 (fun e => hc (UInt8.toNat_inj.1 (by have h : (10 : UInt8).toNat = 10 := rfl; rw [h]; omega)))
            have HFIN : Hid (((b.text.take (k + 1)).count 10 : Nat) = m) := Lib.hid (by rw [HST.out, if_neg hc, Nat.add_zero])
            clear HST hc
            go_wp2_with fail
            go_round
            case rel => exact ⟨k + 1, by omega, by go_num, by rw [HFIN.out]⟩
            case measure => simp [intOf]; omega
        · obtain rfl : k = n := by omega
          have q3 : decide (k < k) = false := decide_eq_false (by omega)
          have hbi : b.text[k]? = some tx[k] := by
            have h1 : tx[k] = tx.data.toList[k]'(by simpa using hnt) := rfl
            have h2 : tx.data.toList = b.text := by rw [HTX.out]
            rw [h1, ← h2]
            exact List.getElem?_eq_getElem _
          obtain ⟨o1, o2, o3⟩ := open_turn HGD.out.1 HGD.out.2 HLD.out hbi H1.out H2.out (fun e => H3.out e.symm)
          have O1 := Lib.hid o1
          have O2 := Lib.hid o2
          have O3 := Lib.hid o3
          have hsm : (b.text.set k c).length ≤ 1000000 := by rw [List.length_set]; have := HTS.out; omega
          have htt := turned_text b.text k c (by have := HTS.out; omega)
          rw [← HTX.out, ← HTS.out] at htt
          have HTT := Lib.hid htt
          have HOW := Lib.hid (fun (w : World) (hb : Below W.heap.size W w) => open_walk (b.text.set k c) w W.heap.size hb.size (HE.out.on hb) hsm)
          obtain ⟨X, hX⟩ : ∃ X : ByteArray, X = ⟨#[c]⟩ := ⟨_, rfl⟩
          have hX1 : X.size = 1 := by rw [hX]; rfl
          rw [← htt, ← hX] at HOW
          obtain ⟨lines, hlines⟩ : ∃ m, m = (b.text.take k).count 10 := ⟨_, rfl⟩
          rw [← hlines] at hck O2 ⊢
          have hcv := run_convert_bytes_back (P := Tryz.prog) (w3.alloc (.cells #[.int .u8 (c.toNat : Int)] 5)).drew 31 9 5 ⟨w3.heap.size, 0, none⟩ 1 [c] Tryz.underlying31 Tryz.underlying5 Tryz.underlying9 (by
            intro j hj
            obtain rfl : j = 0 := by simp at hj; exact hj
            rw [add_flat, World.cell?_drew, World.cell?_alloc_at _ _ _ _ rfl]
            rfl)
          have hcv' : (convert 31 9 (.slice (some ⟨w3.heap.size, 0, none⟩) 1 1)).run Tryz.prog (w3.alloc (.cells #[.int .u8 (c.toNat : Int)] 5)).drew = .ok (.string X) (w3.alloc (.cells #[.int .u8 (c.toNat : Int)] 5)).drew := by rw [hX]; exact hcv
          have HBX := Lib.hid (show Below W.heap.size W (w3.alloc (.cells #[.int .u8 (c.toNat : Int)] 5)).drew from (HB3.out.alloc HB3.out.size _).drew)
          have s1 : IntKind.i64.wrap ((k : Int) + 1) = (k : Int) + 1 := IntWalk.i64_in _ (by omega)
          have s2 : ((k : Int) + 1).toNat = k + 1 := by omega
          have s3 : (0 : Int) ≤ (k : Int) + 1 := by omega
          have s4 : (k : Int) + 1 ≤ (tx.size : Int) := by omega
          have s5 : (k : Int) ≤ (tx.size : Int) := by omega
          have r7 : ¬ (9223372036854775807 < min k tx.size + 1) := by omega
          have r8 : ¬ (9223372036854775807 < min k tx.size + 1 + (tx.size - (k + 1))) := by omega
          have h12 : ∃ q : Int, (q = 2 ∨ q = 6) ∧ errV (openE (b.text.set k c) : Nat) = .iface 59 (.int .i64 q) := by
            rcases o3 with h | h
            · exact ⟨2, .inl rfl, by rw [h]; rfl⟩
            · exact ⟨6, .inr rfl, by rw [h]; rfl⟩
          clear o1 o2 o3 hsm hlines hbi htt hcv hX O3 HTT
          obtain ⟨q, hq, he⟩ := h12
          have HEV := Lib.hid he
          clear he
          go_wp2_with fail
          go_region_law (go_simp; go_at_call 13; refine (HOW.out _ HBX.out).mono ?_; rintro e w5 ⟨⟨pt, rfl, hres⟩, hb5⟩; rw [O1.out] at hres; obtain rfl : pt = none := hres; rw [O2.out, HEV.out]; have HB5 := Lib.hid (HBX.out.trans (hb5.mono HBX.out.size)); clear hb5)
          all_goals
            go_wp2_with fail
            refine (error_is q 2 _ (HH.out.below HB5.out)).mono ?_
            rintro _ w6 ⟨rfl, hb6⟩
            have HB6 := Lib.hid (HB5.out.trans (hb6.mono HB5.out.size))
            clear hb6
            rcases hq with rfl | rfl
            · go_wp2_with fail
              go_ret
              exact ⟨rfl, HB6.out⟩
            · go_wp2_with fail
              refine (error_is 6 6 _ (HH.out.below HB6.out)).mono ?_
              rintro _ w7 ⟨rfl, hb7⟩
              have HB7 := Lib.hid (HB6.out.trans (hb7.mono HB6.out.size))
              clear hb7
              go_wp2_with fail
              go_ret
              exact ⟨rfl, HB7.out⟩
    · have hcase : decide (tx[n] = 10) = true ∨ (decide (tx[n] = 10) = false ∧ decide (c = 10) = true) ∨ (decide (tx[n] = 10) = false ∧ decide (c = 10) = false ∧ decide (tx[n] = c) = true) := by
        by_cases h1 : tx[n] = 10
        · exact .inl (decide_eq_true h1)
        · by_cases h2 : c = 10
          · exact .inr (.inl ⟨decide_eq_false h1, decide_eq_true h2⟩)
          · exact .inr (.inr ⟨decide_eq_false h1, decide_eq_false h2, decide_eq_true (Classical.byContradiction fun h3 => hall ⟨h1, h2, h3⟩)⟩)
      clear hall
      rcases hcase with h1 | ⟨h1, h2⟩ | ⟨h1, h2, h3⟩
      · rw [h1] at q3
        clear h1 q4 q5
        go_wp2_with fail
        go_ret
        exact ⟨rfl, HB3.out⟩
      · rw [h1] at q3
        rw [h2] at q4
        clear h1 h2 q5
        go_wp2_with fail
        go_ret
        exact ⟨rfl, HB3.out⟩
      · rw [h1] at q3
        rw [h2] at q4
        rw [h3] at q5
        clear h1 h2 h3
        go_wp2_with fail
        go_ret
        exact ⟨rfl, HB3.out⟩
  · have hcase : decide (i0 < 0) = true ∨ (decide (i0 < 0) = false ∧ decide ((tx.size : Int) ≤ i0) = true) := by
      by_cases h : i0 < 0
      · exact .inl (decide_eq_true h)
      · exact .inr ⟨decide_eq_false h, decide_eq_true (by omega)⟩
    clear hn
    rcases hcase with q1 | ⟨q1, q2⟩
    all_goals
      go_wp2_with fail
      go_ret
      exact ⟨rfl, HB3.out⟩

end Go.Proofs.YtfofepmkjjeldaaGreatDoor
