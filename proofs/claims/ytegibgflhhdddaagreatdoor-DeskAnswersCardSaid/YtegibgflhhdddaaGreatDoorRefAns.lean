/- The reference answers a line of a session. -/
import Derived.Test.YtegibgflhhdddaaGreatDoorRefOpen
import Derived.Test.YtegibgflhhdddaaGreatDoorDesk3
import Derived.Deep.RegionHeld3
namespace Go.Proofs.YtegibgflhhdddaaGreatDoor
open Go.RowKit

def AnsRes (b : Bk) (t : List UInt8) (e : Ending) (w' : World) : Prop := ∃ v1 v2 v3, e = .returned (.tuple #[refV v1 v2 v3 b, .string ⟨t.toArray⟩]) ∧ RefIs w' v1 v2 v3 b
theorem AnsRes.is {w : World} {v1 v2 v3 : Value} {b' : Bk} {m : Nat} {tx t5 : ByteArray} {t : List UInt8} (h : RefIs w v1 v2 v3 b') (htx : tx = ⟨b'.text.toArray⟩) (hm : m = b'.T.length) (ht : t5 = ⟨t.toArray⟩) :
    AnsRes b' t (.returned (.tuple #[.agg #[v1, v2, v3, .string tx, .int .i64 (m : Nat)], .string t5])) w :=
  ⟨v1, v2, v3, by rw [htx, hm, ht]; rfl, h⟩

set_option maxRecDepth 100000 in
theorem called_walk (k : Nat) (w : World) (h : k ≤ 7) :
    Calls Tryz.prog 29 #[.int .i64 (k : Nat)] w fun e w' => e = .returned (.string ⟨(tell k).toArray⟩) ∧ w = w' := by
  go_enter Tryz.func29, Tryz.ntmps29
  by_cases h0 : k = 0
  · subst h0
    go_wp2_with fail
    go_ret
    exact ⟨rfl, rfl⟩
  · have q : ((k : Int) == 0) = false := beq_eq_false_iff_ne.2 (by omega)
    go_wp2_with fail
    refine (errname_walk k w ⟨by omega, h⟩).mono ?_
    rintro e w' ⟨rfl, hw⟩
    obtain rfl := hw
    go_wp2_with fail
    go_ret
    exact ⟨rfl, rfl⟩

theorem digs (n : Nat) (h : n < 10000) : ∃ td : ByteArray, td = ⟨(Lib.decDigits n).toArray⟩ ∧ td.size ≤ 4 ∧ ∀ w, Calls Tryz.prog 31 #[.int .i64 (n : Nat)] w fun e w' => e = .returned (.string td) ∧ w = w' :=
  ⟨_, rfl, by rw [show (⟨(Lib.decDigits n).toArray⟩ : ByteArray).size = (Lib.decDigits n).length from List.size_toArray]; exact dec_len4 h, digits_walk n (by omega)⟩
theorem calleds (k : Nat) (h : k ≤ 7) : ∃ td : ByteArray, td = ⟨(tell k).toArray⟩ ∧ ∀ w, Calls Tryz.prog 29 #[.int .i64 (k : Nat)] w fun e w' => e = .returned (.string td) ∧ w = w' := ⟨_, rfl, fun w => called_walk k w h⟩
theorem str_two {td : ByteArray} {A : Array UInt8} {t : List UInt8} (h : td = ⟨t.toArray⟩) : (⟨A⟩ : ByteArray) ++ td = ⟨(A.toList ++ t).toArray⟩ := by
  rw [h]
  exact ByteArray.ext (by simp)

theorem done_full {b : Bk} (h : b.doneE ≠ 0) : b.done = b := by
  unfold Bk.doneE at h
  unfold Bk.done
  split at h
  · rename_i h1
    exact if_pos h1
  · exact absurd rfl h

set_option maxRecDepth 100000 in
set_option maxHeartbeats 20000000 in
theorem refans_walk (w : World) (v1 v2 v3 : Value) (b : Bk) (s : ByteArray) (hr : RefIs w v1 v2 v3 b) (hb : Reach b) (hs : s.size ≤ 100000) :
    Calls Tryz.prog 14 #[refV v1 v2 v3 b, .string s] w fun e w' => AnsRes (b.ansB (req s.data.toList)) (b.ansT (req s.data.toList)) e w' ∧ Below w.heap.size w w' := by
  obtain ⟨a1, n1, m1, rfl, hn1⟩ := hr.r1.sl
  obtain ⟨a2, n2, m2, rfl, hn2⟩ := hr.r2.sl
  obtain ⟨a3, n3, m3, rfl, -⟩ := hr.r3.sl
  rw [natsI, List.length_map, hb.good.1.len] at hn1
  rw [natsI, List.length_map, List.length_map] at hn2
  subst hn1
  have HN2 := Lib.hid hn2
  obtain ⟨tx, htx⟩ := named b.text
  have HTX := Lib.hid htx
  unfold refV
  rw [← htx]
  have hl : s.data.toList.length = s.size := rfl
  have HL := Lib.hid hl
  obtain ⟨m, hm⟩ : ∃ m, m = b.T.length := ⟨_, rfl⟩
  have HM := Lib.hid hm
  have HOK := Lib.hid hb
  rw [← hm]
  obtain ⟨W1, hW1⟩ : ∃ W1, W1 = (w.alloc (.cells #[.slice a1 8 m1, .slice a2 n2 m2, .slice a3 n3 m3, .string tx, .int .i64 (m : Nat)] 44)).alloc (.cells #[.slice none 0 0, .slice none 0 0, .slice none 0 0, .string ⟨#[]⟩, .int .i64 0] 44) := ⟨_, rfl⟩
  have hbl : Below w.heap.size w W1 := by rw [hW1]; exact ((Below.refl _ _).alloc (Nat.le_refl _) _).alloc (by simp) _
  have hX : W1.heap[w.heap.size]? = some (.cells #[.slice a1 8 m1, .slice a2 n2 m2, .slice a3 n3 m3, .string tx, .int .i64 (m : Nat)] 44 (0, 0)) := by
    rw [hW1]
    exact (Below.heap_alloc _ _ _ (by simp)).trans (heap_alloc_new w _)
  have hY : W1.heap[w.heap.size + 1]? = some (.cells #[.slice none 0 0, .slice none 0 0, .slice none 0 0, .string ⟨#[]⟩, .int .i64 0] 44 (0, 0)) := by
    rw [hW1]
    have h := heap_alloc_new (w.alloc (.cells #[.slice a1 8 m1, .slice a2 n2 m2, .slice a3 n3 m3, .string tx, .int .i64 (m : Nat)] 44)) (.cells #[.slice none 0 0, .slice none 0 0, .slice none 0 0, .string ⟨#[]⟩, .int .i64 0] 44)
    rw [World.size_alloc] at h
    exact h
  have HBL := Lib.hid hbl
  have HX := Lib.hid hX
  have HY := Lib.hid hY
  have HR := Lib.hid (hr.below hbl)
  have HW1 := Lib.hid hW1
  clear hr htx hl hm hbl hX hY hW1 hb hn2
  go_enter Tryz.func14, Tryz.ntmps14
  go_wp2_with fail
  rw [← HW1.out]
  clear HW1
  refine (refcut_walk s 32 W1 (by omega)).mono ?_
  rintro e w5 ⟨⟨v, L, rfl, hown, hLd, hLn⟩, hb5⟩
  obtain ⟨x, t, rfl⟩ : ∃ x t, L = x :: t := by
    cases L with
    | nil => exact absurd hLd.symm (cutAt_ne 32 _)
    | cons x t => exact ⟨x, t, rfl⟩
  obtain ⟨n, hn⟩ : ∃ n, n = t.length := ⟨_, rfl⟩
  rw [List.length_cons, ← hn] at hown hLn
  obtain ⟨yy, cap, rfl, hown2⟩ := own_some hown (by omega)
  have hstr : ∀ (j : Nat) (y : ByteArray), (x :: t)[j]? = some y → w5.cell? ⟨yy, j, none⟩ = some (.string y) := fun j y hj => by
    have hjl : j < n + 1 := by have := (List.getElem?_eq_some_iff.1 hj).1; rw [List.length_cons, ← hn] at this; exact this
    rw [hown2.cellAt j (by omega)]
    unfold strsV
    rw [List.getElem?_map, hj]
    rfl
  have hyl : yy < w5.heap.size := (hown2.lt yy rfl).2
  have HT := Lib.hid hn
  have HLD := Lib.hid hLd
  have HSTR := Lib.hid hstr
  have HYL := Lib.hid hyl
  have HB5 := Lib.hid (HBL.out.trans (hb5.mono HBL.out.size))
  have HX5 := Lib.hid ((hb5.block _ (lt_of_heap HX.out)).trans HX.out)
  have HY5 := Lib.hid ((hb5.block _ (lt_of_heap HY.out)).trans HY.out)
  have HR5 := Lib.hid (HR.out.below hb5)
  have hln : n ≤ 100000 := by omega
  clear hown hown2 hLd hstr hyl hb5 hLn hn
  go_wp2_with fail
  go_loopw [7, 8] (fun v ix wr => ∃ (k : Nat) (ns : List Nat), k ≤ n ∧ ix = .int .i64 ((k : Int) + 1) ∧ smalls ((t.take k).map (·.data.toList)) = some ns ∧ wr.ownsRow w5.heap.size 3 1 v ns.length (ints (natsB ns)) ∧ Below w5.heap.size w5 wr) (fun _ ix _ => n + 1 - (intOf ix).toNat)
  case atStart => exact ⟨0, [], Nat.zero_le _, rfl, rfl, World.ownsRow_nil .., Below.refl ..⟩
  case round =>
    obtain ⟨k, ns, hk, rfl, hns, hown, hbc⟩ := hrel
    have HNS := Lib.hid hns
    have HOWN := Lib.hid hown
    have HBC := Lib.hid hbc
    have HBR := Lib.hid (HB5.out.trans (hbc.mono HB5.out.size))
    have hlen : ns.length = k := by
      have h1 := smalls_take hns
      rw [List.length_map, List.length_take] at h1
      have := HT.out
      omega
    have HXR := Lib.hid ((hbc.block _ (lt_of_heap HX5.out)).trans HX5.out)
    have HYR := Lib.hid ((hbc.block _ (lt_of_heap HY5.out)).trans HY5.out)
    have HRR := Lib.hid (HR5.out.below hbc)
    have HYD : Hid (wr.drew.heap[w.heap.size + 1]? = some (.cells #[.slice none 0 0, .slice none 0 0, .slice none 0 0, .string ⟨#[]⟩, .int .i64 0] 44 (0, 0))) := Lib.hid HYR.out
    have HRD := Lib.hid (HRR.out.below (Below.refl wr.heap.size wr).drew)
    have HBD := Lib.hid HBR.out.drew
    obtain ⟨⟨x0, x1, x2, x3, x4⟩, -⟩ := cells5 HXR.out
    obtain ⟨⟨y0, y1, y2, y3, y4⟩, ⟨f0, f1, f2, f3, f4⟩⟩ := cells5 HYR.out
    clear hns hown hbc
    by_cases hlt : k < n
    · have hq1 : decide (k < n) = true := decide_eq_true hlt
      have hq2 : decide ((k : Int) < (n : Int)) = true := decide_eq_true (by omega)
      have hq3 : decide ((k : Int) + 1 < (n : Int) + 1) = true := decide_eq_true (by omega)
      obtain ⟨y, hy⟩ : ∃ y, t[k]? = some y := ⟨_, List.getElem?_eq_getElem (by have := HT.out; omega)⟩
      have hcy : wr.cell? ⟨yy, k + 1, none⟩ = some (.string y) := (HBC.out.cell (p := ⟨yy, k + 1, none⟩) HYL.out).trans (HSTR.out (k + 1) y (by rw [List.getElem?_cons_succ]; exact hy))
      have hysz : y.size ≤ 100000 := by
        have h1 : y.data.toList ∈ cutAt 32 s.data.toList := by
          rw [← HLD.out, List.map_cons]
          exact List.mem_cons_of_mem _ (List.mem_map_of_mem (List.mem_of_getElem? hy))
        have h2 := cutAt_len h1
        have h3 : y.data.toList.length = y.size := rfl
        rw [HL.out] at h2
        omega
      have HY2 := Lib.hid hy
      have s1 : ((k : Int) + 1).toNat = k + 1 := by omega
      have s2 : (0 : Int) ≤ (k : Int) + 1 := by omega
      have s3 : (k : Int) + 1 < (n : Int) + 1 := by omega
      clear hy
      go_wp2_with fail
      refine (refnum_walk y wr (by omega)).mono ?_
      rintro e w6 ⟨⟨n0, ok, rfl, hcase⟩, hw⟩
      obtain rfl := hw
      have htake : (t.take (k + 1)).map (·.data.toList) = (t.take k).map (·.data.toList) ++ [y.data.toList] := by
        rw [List.take_succ_eq_append_getElem (List.getElem?_eq_some_iff.1 HY2.out).1, (List.getElem?_eq_some_iff.1 HY2.out).2]
        simp
      have HTK := Lib.hid htake
      clear htake
      rcases hcase with ⟨rfl, u, rfl, hn⟩ | ⟨rfl, hn⟩
      rotate_left
      · have HQ := Lib.hid (req_none HLD.out.symm (smalls_stop HY2.out HNS.out (small_no hn)))
        clear hn
        go_wp2_with fail
        refine bodyPost_ret (results_row2 (p := 4) (a := 5) rfl rfl (load_book (book_put HYR.out HRR.out rfl).2.1)) rfl ⟨?_, HBR.out.trans ((book_put HYR.out HRR.out rfl).2.2.2.2 _ (by omega))⟩
        rw [HQ.out]
        exact AnsRes.is (b' := b) (t := [98, 97, 100]) (book_put HYR.out HRR.out rfl).1 HTX.out HM.out rfl
      by_cases h7 : y.size ≤ 7
      rotate_left
      · have hq4 : decide ((7 : Int) < (y.size : Int)) = true := decide_eq_true (by omega)
        have HQ := Lib.hid (req_none HLD.out.symm (smalls_stop HY2.out HNS.out (small_long (by have h3 : y.data.toList.length = y.size := rfl; omega))))
        clear hn h7
        go_wp2_with fail
        refine bodyPost_ret (results_row2 (p := 4) (a := 5) rfl rfl (load_book (book_put HYR.out HRR.out rfl).2.1)) rfl ⟨?_, HBR.out.trans ((book_put HYR.out HRR.out rfl).2.2.2.2 _ (by omega))⟩
        rw [HQ.out]
        exact AnsRes.is (b' := b) (t := [98, 97, 100]) (book_put HYR.out HRR.out rfl).1 HTX.out HM.out rfl
      have hq4 : decide ((7 : Int) < (y.size : Int)) = false := decide_eq_false (by omega)
      have HN1 := Lib.hid (small_yes hn (by have h3 : y.data.toList.length = y.size := rfl; omega))
      have HM1 := Lib.hid (show ns.length + 1 ≤ maxLen from by unfold maxLen; omega)
      have HM2 := Lib.hid (show (ns.length + 1) * 8 ≤ 140737488355328 from by omega)
      clear hn x0 x1 x2 x3 x4 y0 y1 y2 y3 y4 f0 f1 f2 f3 f4
      go_wp2_with (at_builtin; go_must (refine wpList_push (.int .i64 0) 8 HOWN.out Tryz.underlying42 infoInt6 rfl rfl rfl rfl HM1.out HM2.out HBC.out.size ?_; intro v' w7 hown1 hbel1 _; have HO7 := Lib.hid hown1; have HC7 := Lib.hid (HBC.out.trans hbel1); clear hown1 hbel1))
      go_roundw
      case rel =>
        refine ⟨k + 1, ns ++ [u], by omega, by first | (congr 1; omega) | (congr 1; rw [IntWalk.i64_in _ (by omega)]; omega) | go_num, ?_, ?_, HC7.out⟩
        · rw [HTK.out, smalls_snoc, HNS.out, HN1.out]
          rfl
        · have h := HO7.out
          simp only [natsB, List.map_append, ints, List.length_append] at h ⊢
          exact h
      case measure => simp [intOf]; omega
    · obtain rfl : k = n := by omega
      have hq1 : decide (k < k) = false := decide_eq_false (Nat.lt_irrefl _)
      have hq3 : decide ((k : Int) + 1 < (k : Int) + 1) = false := decide_eq_false (by omega)
      have hcx : wr.cell? ⟨yy, 0, none⟩ = some (.string x) := (HBC.out.cell (p := ⟨yy, 0, none⟩) HYL.out).trans (HSTR.out 0 x rfl)
      obtain ⟨hvn, hv⟩ := HasInts.of_own HOWN.out
      obtain ⟨mm, hmm⟩ : ∃ m, m = (natsB ns).length := ⟨_, rfl⟩
      have hmn : mm = ns.length := by omega
      obtain ⟨va, vcap, rfl, hv2, hv3, hv4⟩ := hv
      rw [← hmm] at hv4 ⊢
      have HMN := Lib.hid hmn
      have HV4 := Lib.hid hv4
      have hnsf : smalls (t.map (·.data.toList)) = some ns := by
        have := HNS.out
        rw [List.take_of_length_le (by have := HT.out; omega)] at this
        exact this
      have HQR := Lib.hid (req_some HLD.out.symm hnsf)
      clear hvn hmm hmn hv2 hv3 hv4 hnsf hlen
      by_cases hvw : x.toList = [119, 114, 105, 116, 101]
      · by_cases hcw : mm = 2
        · subst hcw
          obtain ⟨p, q, rfl⟩ : ∃ p q, ns = [p, q] := by
            have h3 := HMN.out
            match ns, h3 with
            | [p, q], _ => exact ⟨p, q, rfl⟩
          obtain ⟨lb, lo, rfl, hlb, hcl⟩ := HV4.out (by omega)
          have c0 : wr.cell? ⟨lb, lo, none⟩ = some (.int .i64 (p : Nat)) := hcl 0 _ rfl
          have c1 : wr.cell? ⟨lb, lo + 1, none⟩ = some (.int .i64 (q : Nat)) := hcl 1 _ rfl
          have HQ : Hid (req s.data.toList = .write p q) := Lib.hid (HQR.out.trans (by change reqOf x.data.toList _ = _; rw [← ByteArray.toList_eq, hvw]; rfl))
          have HC0 := Lib.hid c0
          have HC1 := Lib.hid c1
          clear hcl hq1 hq3
          go_upto_region 11 with fail
          go_cut [11, 12] (fun c9 c10 wx => ∃ gc u1 u2 u3, c9 = .pointer (some ⟨gc, 0, none⟩) ∧ c10 = .int .i64 (b.writeE p q : Nat) ∧ w.heap.size + 1 < gc ∧ wx.heap[gc]? = some (bookCells u1 u2 u3 (b.write p q)) ∧ RefIs wx u1 u2 u3 (b.write p q) ∧ Below wr.heap.size wr wx)
          case first =>
            have hba : Below wr.heap.size wr (wr.alloc (.cells #[.slice none 0 0, .slice none 0 0, .slice none 0 0, .string ⟨#[]⟩, .int .i64 0] 44)).drew := ((Below.refl _ _).alloc (Nat.le_refl _) _).drew
            have hca : (wr.alloc (.cells #[.slice none 0 0, .slice none 0 0, .slice none 0 0, .string ⟨#[]⟩, .int .i64 0] 44)).drew.heap[wr.heap.size]? = some (.cells #[.slice none 0 0, .slice none 0 0, .slice none 0 0, .string ⟨#[]⟩, .int .i64 0] 44 (0, 0)) := heap_alloc_new wr _
            have hblt := lt_of_heap HXR.out
            have iA0 := (hba.cell (p := ⟨w.heap.size, 0, none⟩) hblt).trans x0
            have iA1 := (hba.cell (p := ⟨w.heap.size, 1, none⟩) hblt).trans x1
            have iA2 := (hba.cell (p := ⟨w.heap.size, 2, none⟩) hblt).trans x2
            have iA3 := (hba.cell (p := ⟨w.heap.size, 3, none⟩) hblt).trans x3
            have iA4 := (hba.cell (p := ⟨w.heap.size, 4, none⟩) hblt).trans x4
            have cA0 := (hba.cell (p := ⟨lb, lo, none⟩) hlb).trans c0
            have cA1 := (hba.cell (p := ⟨lb, lo + 1, none⟩) hlb).trans c1
            have HBA := Lib.hid hba
            have HCA := Lib.hid hca
            clear hba hca
            have hS : ∀ w', Below wr.heap.size wr w' → (w'.cell? ⟨w.heap.size, 0, none⟩ = some (.slice a1 8 m1) ∧ w'.cell? ⟨w.heap.size, 1, none⟩ = some (.slice a2 n2 m2) ∧ w'.cell? ⟨w.heap.size, 2, none⟩ = some (.slice a3 n3 m3) ∧ w'.cell? ⟨w.heap.size, 3, none⟩ = some (.string tx) ∧ w'.cell? ⟨w.heap.size, 4, none⟩ = some (.int .i64 (m : Nat)) ∧ w'.cell? ⟨lb, lo, none⟩ = some (.int .i64 (p : Nat)) ∧ w'.cell? ⟨lb, lo + 1, none⟩ = some (.int .i64 (q : Nat))) := fun w' hb' =>
              ⟨(hb'.cell (p := ⟨w.heap.size, 0, none⟩) hblt).trans x0, (hb'.cell (p := ⟨w.heap.size, 1, none⟩) hblt).trans x1, (hb'.cell (p := ⟨w.heap.size, 2, none⟩) hblt).trans x2, (hb'.cell (p := ⟨w.heap.size, 3, none⟩) hblt).trans x3, (hb'.cell (p := ⟨w.heap.size, 4, none⟩) hblt).trans x4, (hb'.cell (p := ⟨lb, lo, none⟩) hlb).trans c0, (hb'.cell (p := ⟨lb, lo + 1, none⟩) hlb).trans c1⟩
            have HS := Lib.hid hS
            have HWR : Hid (∀ w0, RefIs w0 (.slice a1 8 m1) (.slice a2 n2 m2) (.slice a3 n3 m3) b → Calls Tryz.prog 28 #[.agg #[.slice a1 8 m1, .slice a2 n2 m2, .slice a3 n3 m3, .string tx, .int .i64 (m : Nat)], .int .i64 (p : Nat), .int .i64 (q : Nat)] w0 fun e w' => RefRes (b.write p q) #[.int .i64 (b.writeE p q : Nat)] e w' ∧ Below w0.heap.size w0 w') := Lib.hid (fun w0 h0 => by
              rw [HTX.out, HM.out]
              exact refwrite_walk _ _ _ _ b (p : Int) (q : Int) h0 HOK.out.good.1)
            clear hblt hS
            go_region_held3 (fun w' => w'.cell? ⟨w.heap.size, 0, none⟩ = some (.slice a1 8 m1) ∧ w'.cell? ⟨w.heap.size, 1, none⟩ = some (.slice a2 n2 m2) ∧ w'.cell? ⟨w.heap.size, 2, none⟩ = some (.slice a3 n3 m3) ∧ w'.cell? ⟨w.heap.size, 3, none⟩ = some (.string tx) ∧ w'.cell? ⟨w.heap.size, 4, none⟩ = some (.int .i64 (m : Nat)) ∧ w'.cell? ⟨lb, lo, none⟩ = some (.int .i64 (p : Nat)) ∧ w'.cell? ⟨lb, lo + 1, none⟩ = some (.int .i64 (q : Nat)))
              ((refine HS.out _ ?_; repeat (first | exact HB6.out | exact Below.refl _ _ | refine Below.drew ?_ | refine Below.alloc ?_ (by first | exact Nat.le_refl _ | exact HB6.out.size | simp) _ | refine Below.setCell ?_ (by first | exact Nat.le_refl _ | exact HB6.out.size | simp) _)))
              ((go_at_call 28; first | (refine (HWR.out _ (HRR.out.below HBA.out)).mono ?_; rintro e6 w6 ⟨⟨u1, u2, u3, he6, hr6⟩, hb6⟩; obtain ⟨a7, n7, m7, rfl, -⟩ := hr6.r1.sl; obtain ⟨a8, n8, m8, rfl, -⟩ := hr6.r2.sl; obtain ⟨a9, n9, m9, rfl, -⟩ := hr6.r3.sl; obtain ⟨tx6, htx6⟩ : ∃ tx6 : ByteArray, tx6 = ⟨(b.write p q).text.toArray⟩ := ⟨_, rfl⟩; have he6' : e6 = .returned (.tuple #[.agg #[.slice a7 n7 m7, .slice a8 n8 m8, .slice a9 n9 m9, .string tx6, .int .i64 ((b.write p q).T.length : Nat)], .int .i64 (b.writeE p q : Nat)]) := (by rw [htx6]; exact he6); subst he6'; have HTX6 := Lib.hid htx6; have HR6 := Lib.hid hr6; have HB6 := Lib.hid (HBA.out.trans (hb6.mono HBA.out.size)); have HC6 := Lib.hid ((hb6.block _ (lt_of_heap HCA.out)).trans HCA.out); obtain ⟨⟨e0, e1, e2, e3, e4⟩, ⟨z0, z1, z2, z3, z4⟩⟩ := cells5 HC6.out; clear hb6 hr6 he6 htx6) | (refine (HWR.out _ (HRR.out.below (Below.refl wr.heap.size wr).drew)).mono ?_; rintro e6 w6 ⟨⟨u1, u2, u3, he6, hr6⟩, hb6⟩; obtain ⟨a7, n7, m7, rfl, -⟩ := hr6.r1.sl; obtain ⟨a8, n8, m8, rfl, -⟩ := hr6.r2.sl; obtain ⟨a9, n9, m9, rfl, -⟩ := hr6.r3.sl; obtain ⟨tx6, htx6⟩ : ∃ tx6 : ByteArray, tx6 = ⟨(b.write p q).text.toArray⟩ := ⟨_, rfl⟩; have he6' : e6 = .returned (.tuple #[.agg #[.slice a7 n7 m7, .slice a8 n8 m8, .slice a9 n9 m9, .string tx6, .int .i64 ((b.write p q).T.length : Nat)], .int .i64 (b.writeE p q : Nat)]) := (by rw [htx6]; exact he6); subst he6'; have HTX6 := Lib.hid htx6; have HR6 := Lib.hid hr6; have HB6 := Lib.hid ((Below.refl wr.heap.size wr).drew.trans hb6); clear hb6 hr6 he6 htx6)))
            all_goals
              go_wp2_with fail
              go_meet
              have h1 := lt_of_heap HYR.out
              have h2 := HB6.out.size
              first
                | (obtain ⟨k1, k2, -, -, k3⟩ := book_put HC6.out HR6.out (x4 := .string tx6) (x5 := .int .i64 ((b.write p q).T.length : Nat)) rfl
                   refine ⟨_, _, _, _, rfl, rfl, by omega, ?_, k1, HB6.out.trans (k3 _ (Nat.le_refl _))⟩
                   rw [k2, HTX6.out]
                   rfl)
                | (have hba : ∀ o, Below w6.heap.size w6 (w6.alloc o) := fun o => (Below.refl _ _).alloc (Nat.le_refl _) _
                   refine ⟨_, _, _, _, rfl, rfl, by omega, ?_, HR6.out.below (hba _), HB6.out.trans ((hba _).mono h2)⟩
                   rw [HTX6.out]
                   exact heap_alloc_new w6 _)
          case rest =>
            obtain ⟨gc, u1, u2, u3, rfl, rfl, hgc, hcc, hrc, hbw⟩ := hcut
            obtain ⟨w6, rfl⟩ : ∃ w6, w6 = wc := ⟨_, rfl⟩
            have HRF := Lib.hid hrc
            have HBF := Lib.hid (HBR.out.trans (hbw.mono HBR.out.size))
            have HY6 := Lib.hid ((hbw.block _ (lt_of_heap HYR.out)).trans HYR.out)
            have HYF : Hid (w6.heap[w.heap.size + 1]? = some (.cells #[.slice none 0 0, .slice none 0 0, .slice none 0 0, .string ⟨#[]⟩, .int .i64 0] 44 (0, 0))) := Lib.hid HY6.out
            obtain ⟨a7, n7, m7, rfl, -⟩ := hrc.r1.sl
            obtain ⟨a8, n8, m8, rfl, -⟩ := hrc.r2.sl
            obtain ⟨a9, n9, m9, rfl, -⟩ := hrc.r3.sl
            obtain ⟨tx7, htx7⟩ : ∃ t : ByteArray, t = ⟨(b.write p q).text.toArray⟩ := ⟨_, rfl⟩
            obtain ⟨m7c, hm7c⟩ : ∃ m, m = (b.write p q).T.length := ⟨_, rfl⟩
            obtain ⟨we, hwe⟩ : ∃ m, m = b.writeE p q := ⟨_, rfl⟩
            unfold bookCells at hcc
            rw [← htx7, ← hm7c] at hcc
            rw [← hwe]
            have hwl : we ≤ 7 := by rw [hwe]; exact writeE_le b p q
            have HTX7 := Lib.hid htx7
            have HM7C := Lib.hid hm7c
            have HWE := Lib.hid hwe
            obtain ⟨⟨e0, e1, e2, e3, e4⟩, -⟩ := cells5 hcc
            obtain ⟨⟨i0, i1, i2, i3, i4⟩, ⟨z0, z1, z2, z3, z4⟩⟩ := cells5 HY6.out
            clear htx7 hm7c hwe
            clear hbw hrc hcc x0 x1 x2 x3 x4 y0 y1 y2 y3 y4 f0 f1 f2 f3 f4 c0 c1
            obtain ⟨td, htd, hdg⟩ := calleds we hwl
            have HTD := Lib.hid htd
            have HDG := Lib.hid hdg
            clear htd hdg
            go_upto_region 12 with fail
            have hS : ∀ w' : World, (∀ x, x ≠ w.heap.size + 1 → w'.heap[x]? = w6.heap[x]?) → (w'.cell? ⟨gc, 0, none⟩ = some (.slice a7 n7 m7) ∧ w'.cell? ⟨gc, 1, none⟩ = some (.slice a8 n8 m8) ∧ w'.cell? ⟨gc, 2, none⟩ = some (.slice a9 n9 m9) ∧ w'.cell? ⟨gc, 3, none⟩ = some (.string tx7) ∧ w'.cell? ⟨gc, 4, none⟩ = some (.int .i64 (m7c : Nat))) := fun w' h => ⟨(cell_of_heap (h gc (by omega)) (0)).trans e0, (cell_of_heap (h gc (by omega)) (1)).trans e1, (cell_of_heap (h gc (by omega)) (2)).trans e2, (cell_of_heap (h gc (by omega)) (3)).trans e3, (cell_of_heap (h gc (by omega)) (4)).trans e4⟩
            have HS := Lib.hid hS
            clear hS
            go_region_held3 (fun w' => w'.cell? ⟨gc, 0, none⟩ = some (.slice a7 n7 m7) ∧ w'.cell? ⟨gc, 1, none⟩ = some (.slice a8 n8 m8) ∧ w'.cell? ⟨gc, 2, none⟩ = some (.slice a9 n9 m9) ∧ w'.cell? ⟨gc, 3, none⟩ = some (.string tx7) ∧ w'.cell? ⟨gc, 4, none⟩ = some (.int .i64 (m7c : Nat)))
              ((refine HS.out _ ?_; intro x hx; repeat (first | refine (heap_setCell_other _ ⟨_, _, none⟩ x _ hx).trans ?_ | exact rfl)))
              ((go_at_call 29; refine (HDG.out _).mono ?_; rintro e7 w7 ⟨rfl, hw7⟩; obtain rfl := hw7))
            all_goals
              go_wp2_with fail
              refine bodyPost_ret (results_row2 (p := 4) (a := 5) rfl rfl (load_bookD (book_put HYF.out HRF.out rfl).2.1)) rfl ⟨?_, (HBF.out.trans ((book_put HYF.out HRF.out rfl).2.2.2.2 _ (by omega))).drew⟩
              rw [HQ.out]
              exact AnsRes.is (b' := b.write p q) (t := tell (b.writeE p q)) ((book_put HYF.out HRF.out rfl).1.below (Below.refl _ _).drew) HTX7.out HM7C.out (by rw [HTD.out, HWE.out])
        · have hq2 : ((mm : Int) == 2) = false := beq_eq_false_iff_ne.2 (by omega)
          have HQ := Lib.hid (HQR.out.trans (reqOf_bad (fun h => hcw (HMN.out.trans h.2)) (fun h => absurd ((ByteArray.toList_eq x ▸ hvw : x.data.toList = _).symm.trans h.1) (by decide)) (fun h => absurd ((ByteArray.toList_eq x ▸ hvw : x.data.toList = _).symm.trans h.1) (by decide)) (fun h => absurd ((ByteArray.toList_eq x ▸ hvw : x.data.toList = _).symm.trans h.1) (by decide)) (fun h => absurd ((ByteArray.toList_eq x ▸ hvw : x.data.toList = _).symm.trans h.1) (by decide))))
          go_wp2_with fail
          all_goals
            refine bodyPost_ret (results_row2 (p := 4) (a := 5) rfl rfl (load_book (book_put HYR.out HRR.out rfl).2.1)) rfl ⟨?_, HBR.out.trans ((book_put HYR.out HRR.out rfl).2.2.2.2 _ (by omega))⟩
            rw [HQ.out]
            exact AnsRes.is (b' := b) (t := [98, 97, 100]) (book_put HYR.out HRR.out rfl).1 HTX.out HM.out rfl
      by_cases hvd : x.toList = [100, 111]
      · by_cases hcd : mm = 0
        · subst hcd
          have hnil : ns = [] := List.length_eq_zero_iff.1 HMN.out.symm
          subst hnil
          have HQ : Hid (req s.data.toList = .dos) := Lib.hid (HQR.out.trans (by change reqOf x.data.toList _ = _; rw [← ByteArray.toList_eq, hvd]; rfl))
          have HDO : Hid (Calls Tryz.prog 30 #[.agg #[.slice a1 8 m1, .slice a2 n2 m2, .slice a3 n3 m3, .string tx, .int .i64 (m : Nat)]] wr fun e w' => RefRes b.done #[.int .i64 (b.doneN : Nat), .int .i64 (b.doneE : Nat)] e w' ∧ Below wr.heap.size wr w') := Lib.hid (by
            have h := refdo_walk wr _ _ _ b HRR.out HOK.out.good.1
            unfold refV at h
            rw [HTX.out, HM.out]
            exact h)
          clear hq1 hq3
          go_wp2_with fail
          refine HDO.out.mono ?_
          rintro e6 w6 ⟨⟨u1, u2, u3, he6, hr6⟩, hb6⟩
          obtain ⟨a7, n7, m7, rfl, -⟩ := hr6.r1.sl
          obtain ⟨a8, n8, m8, rfl, -⟩ := hr6.r2.sl
          obtain ⟨a9, n9, m9, rfl, -⟩ := hr6.r3.sl
          obtain ⟨tx6, htx6⟩ : ∃ tx6 : ByteArray, tx6 = ⟨b.done.text.toArray⟩ := ⟨_, rfl⟩
          obtain ⟨dn, hdn⟩ : ∃ d, d = b.doneN := ⟨_, rfl⟩
          obtain ⟨de, hde⟩ : ∃ d, d = b.doneE := ⟨_, rfl⟩
          have he6' : e6 = .returned (.tuple #[.agg #[.slice a7 n7 m7, .slice a8 n8 m8, .slice a9 n9 m9, .string tx6, .int .i64 (b.done.T.length : Nat)], .int .i64 (dn : Nat), .int .i64 (de : Nat)]) := by
            rw [htx6, hdn, hde]
            exact he6
          subst he6'
          obtain ⟨gc, hgc⟩ : ∃ g, g = w6.heap.size := ⟨_, rfl⟩
          obtain ⟨W7, hW7⟩ : ∃ W, W = w6.alloc (.cells #[.slice a7 n7 m7, .slice a8 n8 m8, .slice a9 n9 m9, .string tx6, .int .i64 (b.done.T.length : Nat)] 44) := ⟨_, rfl⟩
          have hba : Below w6.heap.size w6 W7 := by rw [hW7]; exact (Below.refl _ _).alloc (Nat.le_refl _) _
          have hC7 : W7.heap[gc]? = some (.cells #[.slice a7 n7 m7, .slice a8 n8 m8, .slice a9 n9 m9, .string tx6, .int .i64 (b.done.T.length : Nat)] 44 (0, 0)) := by
            rw [hW7, hgc]
            exact heap_alloc_new w6 _
          have hb8 := hb6.trans (hba.mono hb6.size)
          have HRC := Lib.hid (hr6.below hba)
          have HRB := Lib.hid (HRR.out.below hb8)
          have HTX6 := Lib.hid htx6
          have HDN := Lib.hid hdn
          have HDE := Lib.hid hde
          have HW7 := Lib.hid hW7
          have HGC := Lib.hid hgc
          have hgl : w.heap.size + 1 < gc := by rw [hgc]; exact Nat.lt_of_lt_of_le (lt_of_heap HYR.out) hb6.size
          have HBF := Lib.hid (HBR.out.trans (hb8.mono HBR.out.size))
          have HY7 := Lib.hid ((hb8.block _ (lt_of_heap HYR.out)).trans HYR.out)
          have HX7 := Lib.hid ((hb8.block _ (lt_of_heap HXR.out)).trans HXR.out)
          have HYF : Hid (W7.heap[w.heap.size + 1]? = some (.cells #[.slice none 0 0, .slice none 0 0, .slice none 0 0, .string ⟨#[]⟩, .int .i64 0] 44 (0, 0))) := Lib.hid HY7.out
          obtain ⟨⟨e0, e1, e2, e3, e4⟩, -⟩ := cells5 hC7
          obtain ⟨⟨i0, i1, i2, i3, i4⟩, ⟨z0, z1, z2, z3, z4⟩⟩ := cells5 HY7.out
          obtain ⟨⟨j0, j1, j2, j3, j4⟩, -⟩ := cells5 HX7.out
          clear hb6 hr6 he6 htx6 hba hb8 hC7 hdn hde hW7 hgc x0 x1 x2 x3 x4 y0 y1 y2 y3 y4 f0 f1 f2 f3 f4 HV4 HOWN HDO
          go_upto_region 15 with fail
          rw [← HW7.out, ← HGC.out]
          clear HW7 HGC
          by_cases hE : de = 0
          rotate_left
          · have q5 : ((de : Int) != 0) = true := bne_iff_ne.2 (by omega)
            have HDF := Lib.hid (done_full (by rw [← HDE.out]; exact hE))
            have hle : de ≤ 7 := by rw [HDE.out]; exact doneE_le b
            have HE0 := Lib.hid hE
            clear hE
            obtain ⟨td, htd, hdg⟩ := calleds de hle
            have HTD := Lib.hid htd
            have HDG := Lib.hid hdg
            clear htd hdg
            go_upto_region 16 with fail
            have hS : ∀ w' : World, (∀ x, x ≠ w.heap.size + 1 → w'.heap[x]? = W7.heap[x]?) → (w'.cell? ⟨w.heap.size, 0, none⟩ = some (.slice a1 8 m1) ∧ w'.cell? ⟨w.heap.size, 1, none⟩ = some (.slice a2 n2 m2) ∧ w'.cell? ⟨w.heap.size, 2, none⟩ = some (.slice a3 n3 m3) ∧ w'.cell? ⟨w.heap.size, 3, none⟩ = some (.string tx) ∧ w'.cell? ⟨w.heap.size, 4, none⟩ = some (.int .i64 (m : Nat))) := fun w' h => ⟨(cell_of_heap (h w.heap.size (by omega)) (0)).trans j0, (cell_of_heap (h w.heap.size (by omega)) (1)).trans j1, (cell_of_heap (h w.heap.size (by omega)) (2)).trans j2, (cell_of_heap (h w.heap.size (by omega)) (3)).trans j3, (cell_of_heap (h w.heap.size (by omega)) (4)).trans j4⟩
            have HS := Lib.hid hS
            clear hS
            go_region_held3 (fun w' => w'.cell? ⟨w.heap.size, 0, none⟩ = some (.slice a1 8 m1) ∧ w'.cell? ⟨w.heap.size, 1, none⟩ = some (.slice a2 n2 m2) ∧ w'.cell? ⟨w.heap.size, 2, none⟩ = some (.slice a3 n3 m3) ∧ w'.cell? ⟨w.heap.size, 3, none⟩ = some (.string tx) ∧ w'.cell? ⟨w.heap.size, 4, none⟩ = some (.int .i64 (m : Nat)))
              ((refine HS.out _ ?_; intro x hx; repeat (first | refine (heap_setCell_other _ ⟨_, _, none⟩ x _ hx).trans ?_ | exact rfl)))
              ((go_at_call 29; refine (HDG.out _).mono ?_; rintro e7 w7 ⟨rfl, hw7⟩; obtain rfl := hw7))
            all_goals
              go_wp2_with fail
              refine bodyPost_ret (results_row2 (p := 4) (a := 5) rfl rfl (load_bookD (book_put HYF.out HRB.out rfl).2.1)) rfl ⟨?_, (HBF.out.trans ((book_put HYF.out HRB.out rfl).2.2.2.2 _ (by omega))).drew⟩
              rw [HQ.out]
              have e1 : b.ansB .dos = b := HDF.out
              have e2 : b.ansT .dos = tell de := by
                change (if b.doneE = 0 then _ else _) = _
                rw [← HDE.out, if_neg HE0.out]
              rw [e1, e2]
              exact AnsRes.is (b' := b) ((book_put HYF.out HRB.out rfl).1.below (Below.refl _ _).drew) HTX.out HM.out HTD.out
          have q5 : ((de : Int) != 0) = false := by rw [hE]; rfl
          have hdn6 : dn ≤ 60 := by
            rw [HDN.out]
            have h1 := HOK.out.good.1.waits
            have h2 := HOK.out.good.1.many
            unfold Bk.doneN
            split <;> omega
          obtain ⟨td, htd, htz, hdg⟩ := digs dn (by omega)
          have s9 : ¬ (9223372036854775807 : Nat) < 4 + td.size := by omega
          have HTD := Lib.hid htd
          have HDG := Lib.hid hdg
          have HE0 := Lib.hid hE
          clear hE htd hdg
          go_upto_region 17 with fail
          have hS : ∀ w' : World, (∀ x, x ≠ w.heap.size + 1 → w'.heap[x]? = W7.heap[x]?) → (w'.cell? ⟨gc, 0, none⟩ = some (.slice a7 n7 m7) ∧ w'.cell? ⟨gc, 1, none⟩ = some (.slice a8 n8 m8) ∧ w'.cell? ⟨gc, 2, none⟩ = some (.slice a9 n9 m9) ∧ w'.cell? ⟨gc, 3, none⟩ = some (.string tx6) ∧ w'.cell? ⟨gc, 4, none⟩ = some (.int .i64 (b.done.T.length : Nat))) := fun w' h => ⟨(cell_of_heap (h gc (by omega)) (0)).trans e0, (cell_of_heap (h gc (by omega)) (1)).trans e1, (cell_of_heap (h gc (by omega)) (2)).trans e2, (cell_of_heap (h gc (by omega)) (3)).trans e3, (cell_of_heap (h gc (by omega)) (4)).trans e4⟩
          have HS := Lib.hid hS
          clear hS
          go_region_held3 (fun w' => w'.cell? ⟨gc, 0, none⟩ = some (.slice a7 n7 m7) ∧ w'.cell? ⟨gc, 1, none⟩ = some (.slice a8 n8 m8) ∧ w'.cell? ⟨gc, 2, none⟩ = some (.slice a9 n9 m9) ∧ w'.cell? ⟨gc, 3, none⟩ = some (.string tx6) ∧ w'.cell? ⟨gc, 4, none⟩ = some (.int .i64 (b.done.T.length : Nat)))
            ((refine HS.out _ ?_; intro x hx; repeat (first | refine (heap_setCell_other _ ⟨_, _, none⟩ x _ hx).trans ?_ | exact rfl)))
            ((go_at_call 31; refine (HDG.out _).mono ?_; rintro e7 w7 ⟨rfl, hw7⟩; obtain rfl := hw7))
          all_goals
            go_wp2_with fail
            refine bodyPost_ret (results_row2 (p := 4) (a := 5) rfl rfl (load_bookD (book_put HYF.out HRC.out rfl).2.1)) rfl ⟨?_, (HBF.out.trans ((book_put HYF.out HRC.out rfl).2.2.2.2 _ (by omega))).drew⟩
            rw [HQ.out]
            have e2 : b.ansT .dos = [100, 105, 100, 32] ++ Lib.decDigits dn := by
              change (if b.doneE = 0 then _ else _) = _
              rw [← HDE.out, if_pos HE0.out, HDN.out]
            rw [e2]
            exact AnsRes.is (b' := b.done) ((book_put HYF.out HRC.out rfl).1.below (Below.refl _ _).drew) HTX6.out rfl (str_two HTD.out)
        · have hq2 : ((mm : Int) == 0) = false := beq_eq_false_iff_ne.2 (by omega)
          have HQ := Lib.hid (HQR.out.trans (reqOf_bad (fun h => hvw (by rw [ByteArray.toList_eq]; exact h.1)) (fun h => hcd (HMN.out.trans h.2)) (fun h => absurd ((ByteArray.toList_eq x ▸ hvd : x.data.toList = _).symm.trans h.1) (by decide)) (fun h => absurd ((ByteArray.toList_eq x ▸ hvd : x.data.toList = _).symm.trans h.1) (by decide)) (fun h => absurd ((ByteArray.toList_eq x ▸ hvd : x.data.toList = _).symm.trans h.1) (by decide))))
          go_wp2_with fail
          all_goals
            refine bodyPost_ret (results_row2 (p := 4) (a := 5) rfl rfl (load_book (book_put HYR.out HRR.out rfl).2.1)) rfl ⟨?_, HBR.out.trans ((book_put HYR.out HRR.out rfl).2.2.2.2 _ (by omega))⟩
            rw [HQ.out]
            exact AnsRes.is (b' := b) (t := [98, 97, 100]) (book_put HYR.out HRR.out rfl).1 HTX.out HM.out rfl
      by_cases hvr : x.toList = [114, 101, 97, 100]
      · by_cases hcr : mm = 1
        · subst hcr
          obtain ⟨p, rfl⟩ : ∃ p, ns = [p] := by
            have h3 := HMN.out
            match ns, h3 with
            | [p], _ => exact ⟨p, rfl⟩
          obtain ⟨lb, lo, rfl, hlb, hcl⟩ := HV4.out (by omega)
          have c0 : wr.cell? ⟨lb, lo, none⟩ = some (.int .i64 (p : Nat)) := hcl 0 _ rfl
          have HQ : Hid (req s.data.toList = .read p) := Lib.hid (HQR.out.trans (by change reqOf x.data.toList _ = _; rw [← ByteArray.toList_eq, hvr]; rfl))
          clear hcl hq1 hq3
          by_cases h8 : 7 < p
          · have q5 : decide ((7 : Int) < (p : Int)) = true := decide_eq_true (by omega)
            obtain ⟨td, htd, hdg⟩ := calleds 1 (by omega)
            have HTD := Lib.hid htd
            have HC1 : Hid (∀ w0, Calls Tryz.prog 29 #[.int .i64 1] w0 fun e w' => e = .returned (.string td) ∧ w0 = w') := Lib.hid hdg
            clear htd hdg
            go_upto_region 20 with fail
            have hS : ∀ w' : World, (∀ x, x ≠ w.heap.size + 1 → w'.heap[x]? = wr.heap[x]?) → (w'.cell? ⟨w.heap.size, 0, none⟩ = some (.slice a1 8 m1) ∧ w'.cell? ⟨w.heap.size, 1, none⟩ = some (.slice a2 n2 m2) ∧ w'.cell? ⟨w.heap.size, 2, none⟩ = some (.slice a3 n3 m3) ∧ w'.cell? ⟨w.heap.size, 3, none⟩ = some (.string tx) ∧ w'.cell? ⟨w.heap.size, 4, none⟩ = some (.int .i64 (m : Nat))) := fun w' h => ⟨(cell_of_heap (h w.heap.size (by omega)) (0)).trans x0, (cell_of_heap (h w.heap.size (by omega)) (1)).trans x1, (cell_of_heap (h w.heap.size (by omega)) (2)).trans x2, (cell_of_heap (h w.heap.size (by omega)) (3)).trans x3, (cell_of_heap (h w.heap.size (by omega)) (4)).trans x4⟩
            have HS := Lib.hid hS
            clear hS
            go_region_held3 (fun w' => w'.cell? ⟨w.heap.size, 0, none⟩ = some (.slice a1 8 m1) ∧ w'.cell? ⟨w.heap.size, 1, none⟩ = some (.slice a2 n2 m2) ∧ w'.cell? ⟨w.heap.size, 2, none⟩ = some (.slice a3 n3 m3) ∧ w'.cell? ⟨w.heap.size, 3, none⟩ = some (.string tx) ∧ w'.cell? ⟨w.heap.size, 4, none⟩ = some (.int .i64 (m : Nat)))
              ((refine HS.out _ ?_; intro x hx; repeat (first | refine (heap_setCell_other _ ⟨_, _, none⟩ x _ hx).trans ?_ | exact rfl)))
              ((go_at_call 29; refine (HC1.out _).mono ?_; rintro e7 w7 ⟨rfl, hw7⟩; obtain rfl := hw7))
            all_goals
              go_wp2_with fail
              refine bodyPost_ret (results_row2 (p := 4) (a := 5) rfl rfl (load_bookD (book_put HYR.out HRR.out rfl).2.1)) rfl ⟨?_, (HBR.out.trans ((book_put HYR.out HRR.out rfl).2.2.2.2 _ (by omega))).drew⟩
              rw [HQ.out]
              have e2 : b.ansT (.read p) = tell 1 := if_pos h8
              rw [e2]
              exact AnsRes.is (b' := b) ((book_put HYR.out HRR.out rfl).1.below (Below.refl _ _).drew) HTX.out HM.out HTD.out
          have q5 : decide ((7 : Int) < (p : Int)) = false := decide_eq_false (by omega)
          obtain ⟨z, hz⟩ : ∃ z, b.B[p]? = some z := ⟨_, List.getElem?_eq_getElem (by rw [HOK.out.good.1.len]; omega)⟩
          have hzs := HOK.out.good.1.vals z (List.mem_of_getElem? hz)
          obtain ⟨bb, bo, rfl, hcz⟩ := HRR.out.r1.liesR (natsI_get hz)
          have s1 : (p : Int) < 8 := by omega
          have s2 : (0 : Int) ≤ (p : Int) := by omega
          obtain ⟨td, htd, htz, hdg⟩ := digs z (by omega)
          have HTD := Lib.hid htd
          have HDG := Lib.hid hdg
          have HZ := Lib.hid hz
          clear htd hdg hz
          have hne : ∀ x, (∃ cs fr, wr.heap[x]? = some (.cells cs 3 fr)) → x ≠ w.heap.size + 1 := fun x ⟨cs, fr, hh⟩ e => by
            rw [e, HYR.out] at hh
            simp at hh
          have hnl := hne lb (IntRow.of_own HOWN.out _ _ _ rfl)
          have hnb := hne bb (HRR.out.i1 _ _ _ rfl)
          clear hne
          go_upto_region 21 with fail
          have hS : ∀ w' : World, (∀ x, x ≠ w.heap.size + 1 → w'.heap[x]? = wr.heap[x]?) → (w'.cell? ⟨w.heap.size, 0, none⟩ = some (.slice (some ⟨bb, bo, none⟩) 8 m1) ∧ w'.cell? ⟨w.heap.size, 1, none⟩ = some (.slice a2 n2 m2) ∧ w'.cell? ⟨w.heap.size, 2, none⟩ = some (.slice a3 n3 m3) ∧ w'.cell? ⟨w.heap.size, 3, none⟩ = some (.string tx) ∧ w'.cell? ⟨w.heap.size, 4, none⟩ = some (.int .i64 (m : Nat)) ∧ w'.cell? ⟨lb, lo, none⟩ = some (.int .i64 (p : Nat)) ∧ w'.cell? ⟨bb, bo + p, none⟩ = some (.int .i64 (z : Nat))) := fun w' h => ⟨(cell_of_heap (h w.heap.size (by omega)) (0)).trans x0, (cell_of_heap (h w.heap.size (by omega)) (1)).trans x1, (cell_of_heap (h w.heap.size (by omega)) (2)).trans x2, (cell_of_heap (h w.heap.size (by omega)) (3)).trans x3, (cell_of_heap (h w.heap.size (by omega)) (4)).trans x4, (cell_of_heap (h lb hnl) (lo)).trans c0, (cell_of_heap (h bb hnb) (bo + p)).trans hcz⟩
          have HS := Lib.hid hS
          clear hS
          go_region_held3 (fun w' => w'.cell? ⟨w.heap.size, 0, none⟩ = some (.slice (some ⟨bb, bo, none⟩) 8 m1) ∧ w'.cell? ⟨w.heap.size, 1, none⟩ = some (.slice a2 n2 m2) ∧ w'.cell? ⟨w.heap.size, 2, none⟩ = some (.slice a3 n3 m3) ∧ w'.cell? ⟨w.heap.size, 3, none⟩ = some (.string tx) ∧ w'.cell? ⟨w.heap.size, 4, none⟩ = some (.int .i64 (m : Nat)) ∧ w'.cell? ⟨lb, lo, none⟩ = some (.int .i64 (p : Nat)) ∧ w'.cell? ⟨bb, bo + p, none⟩ = some (.int .i64 (z : Nat)))
            ((refine HS.out _ ?_; intro x hx; repeat (first | refine (heap_setCell_other _ ⟨_, _, none⟩ x _ hx).trans ?_ | exact rfl)))
            ((go_at_call 31; refine (HDG.out _).mono ?_; rintro e7 w7 ⟨rfl, hw7⟩; obtain rfl := hw7))
          all_goals
            go_wp2_with fail
            refine bodyPost_ret (results_row2 (p := 4) (a := 5) rfl rfl (load_bookD (book_put HYR.out HRR.out rfl).2.1)) rfl ⟨?_, (HBR.out.trans ((book_put HYR.out HRR.out rfl).2.2.2.2 _ (by omega))).drew⟩
            rw [HQ.out]
            have e2 : b.ansT (.read p) = Lib.decDigits z := by
              have h2 : b.B.getD p 0 = z := by rw [List.getD_eq_getElem?_getD, HZ.out]; rfl
              change (if 8 ≤ p then tell 1 else Lib.decDigits (b.B.getD p 0)) = _
              rw [h2]
              exact if_neg (by omega)
            rw [e2]
            exact AnsRes.is (b' := b) ((book_put HYR.out HRR.out rfl).1.below (Below.refl _ _).drew) HTX.out HM.out HTD.out
        · have hq2 : ((mm : Int) == 1) = false := beq_eq_false_iff_ne.2 (by omega)
          have HQ := Lib.hid (HQR.out.trans (reqOf_bad (fun h => hvw (by rw [ByteArray.toList_eq]; exact h.1)) (fun h => hvd (by rw [ByteArray.toList_eq]; exact h.1)) (fun h => hcr (HMN.out.trans h.2)) (fun h => absurd ((ByteArray.toList_eq x ▸ hvr : x.data.toList = _).symm.trans h.1) (by decide)) (fun h => absurd ((ByteArray.toList_eq x ▸ hvr : x.data.toList = _).symm.trans h.1) (by decide))))
          go_wp2_with fail
          all_goals
            refine bodyPost_ret (results_row2 (p := 4) (a := 5) rfl rfl (load_book (book_put HYR.out HRR.out rfl).2.1)) rfl ⟨?_, HBR.out.trans ((book_put HYR.out HRR.out rfl).2.2.2.2 _ (by omega))⟩
            rw [HQ.out]
            exact AnsRes.is (b' := b) (t := [98, 97, 100]) (book_put HYR.out HRR.out rfl).1 HTX.out HM.out rfl
      by_cases hva : x.toList = [119, 97, 105, 116, 115]
      · by_cases hca : mm = 0
        · subst hca
          have hnil : ns = [] := List.length_eq_zero_iff.1 HMN.out.symm
          subst hnil
          have HQ : Hid (req s.data.toList = .waits) := Lib.hid (HQR.out.trans (by change reqOf x.data.toList _ = _; rw [← ByteArray.toList_eq, hva]; rfl))
          have hn60 : n2 ≤ 60 := by
            rw [HN2.out]
            have h1 := HOK.out.good.1.waits
            have h2 := HOK.out.good.1.many
            omega
          obtain ⟨td, htd, htz, hdg⟩ := digs n2 (by omega)
          have HTD := Lib.hid htd
          have HDG := Lib.hid hdg
          clear hq1 hq3 htd hdg
          go_upto_region 23 with fail
          have hS : ∀ w' : World, (∀ x, x ≠ w.heap.size + 1 → w'.heap[x]? = wr.heap[x]?) → (w'.cell? ⟨w.heap.size, 0, none⟩ = some (.slice a1 8 m1) ∧ w'.cell? ⟨w.heap.size, 1, none⟩ = some (.slice a2 n2 m2) ∧ w'.cell? ⟨w.heap.size, 2, none⟩ = some (.slice a3 n3 m3) ∧ w'.cell? ⟨w.heap.size, 3, none⟩ = some (.string tx) ∧ w'.cell? ⟨w.heap.size, 4, none⟩ = some (.int .i64 (m : Nat))) := fun w' h => ⟨(cell_of_heap (h w.heap.size (by omega)) (0)).trans x0, (cell_of_heap (h w.heap.size (by omega)) (1)).trans x1, (cell_of_heap (h w.heap.size (by omega)) (2)).trans x2, (cell_of_heap (h w.heap.size (by omega)) (3)).trans x3, (cell_of_heap (h w.heap.size (by omega)) (4)).trans x4⟩
          have HS := Lib.hid hS
          clear hS
          go_region_held3 (fun w' => w'.cell? ⟨w.heap.size, 0, none⟩ = some (.slice a1 8 m1) ∧ w'.cell? ⟨w.heap.size, 1, none⟩ = some (.slice a2 n2 m2) ∧ w'.cell? ⟨w.heap.size, 2, none⟩ = some (.slice a3 n3 m3) ∧ w'.cell? ⟨w.heap.size, 3, none⟩ = some (.string tx) ∧ w'.cell? ⟨w.heap.size, 4, none⟩ = some (.int .i64 (m : Nat)))
            ((refine HS.out _ ?_; intro x hx; repeat (first | refine (heap_setCell_other _ ⟨_, _, none⟩ x _ hx).trans ?_ | exact rfl)))
            ((go_at_call 31; refine (HDG.out _).mono ?_; rintro e7 w7 ⟨rfl, hw7⟩; obtain rfl := hw7))
          all_goals
            go_wp2_with fail
            refine bodyPost_ret (results_row2 (p := 4) (a := 5) rfl rfl (load_bookD (book_put HYR.out HRR.out rfl).2.1)) rfl ⟨?_, (HBR.out.trans ((book_put HYR.out HRR.out rfl).2.2.2.2 _ (by omega))).drew⟩
            rw [HQ.out]
            have e2 : b.ansT .waits = Lib.decDigits n2 := by rw [HN2.out]; rfl
            rw [e2]
            exact AnsRes.is (b' := b) ((book_put HYR.out HRR.out rfl).1.below (Below.refl _ _).drew) HTX.out HM.out HTD.out
        · have hq2 : ((mm : Int) == 0) = false := beq_eq_false_iff_ne.2 (by omega)
          have HQ := Lib.hid (HQR.out.trans (reqOf_bad (fun h => hvw (by rw [ByteArray.toList_eq]; exact h.1)) (fun h => hvd (by rw [ByteArray.toList_eq]; exact h.1)) (fun h => hvr (by rw [ByteArray.toList_eq]; exact h.1)) (fun h => hca (HMN.out.trans h.2)) (fun h => absurd ((ByteArray.toList_eq x ▸ hva : x.data.toList = _).symm.trans h.1) (by decide))))
          go_wp2_with fail
          all_goals
            refine bodyPost_ret (results_row2 (p := 4) (a := 5) rfl rfl (load_book (book_put HYR.out HRR.out rfl).2.1)) rfl ⟨?_, HBR.out.trans ((book_put HYR.out HRR.out rfl).2.2.2.2 _ (by omega))⟩
            rw [HQ.out]
            exact AnsRes.is (b' := b) (t := [98, 97, 100]) (book_put HYR.out HRR.out rfl).1 HTX.out HM.out rfl
      by_cases hvc : x.toList = [99, 114, 97, 115, 104]
      · by_cases hcc : mm = 1
        · subst hcc
          obtain ⟨c, rfl⟩ : ∃ c, ns = [c] := by
            have h3 := HMN.out
            match ns, h3 with
            | [c], _ => exact ⟨c, rfl⟩
          obtain ⟨lb, lo, rfl, hlb, hcl⟩ := HV4.out (by omega)
          have c0 : wr.cell? ⟨lb, lo, none⟩ = some (.int .i64 (c : Nat)) := hcl 0 _ rfl
          have HQ : Hid (req s.data.toList = .crash c) := Lib.hid (HQR.out.trans (by change reqOf x.data.toList _ = _; rw [← ByteArray.toList_eq, hvc]; rfl))
          obtain ⟨cb, hcb, ho, he, hon⟩ := HOK.out.opened c
          obtain ⟨on, hon2⟩ : ∃ o, o = openN (b.text.take c) := ⟨_, rfl⟩
          have hts : tx.size = b.text.length := by rw [HTX.out]; exact List.size_toArray
          have htsm : tx.size ≤ 1020 := by rw [hts]; exact Bk.text_small HOK.out.good.1
          have hons : on ≤ 1020 := by
            rw [hon2, hon]
            have h1 := List.count_le_length (a := (10 : UInt8)) (l := b.text.take c)
            rw [List.length_take] at h1
            omega
          have HOP : Hid (∀ (y : ByteArray) (w0 : World), y.data.toList = b.text.take c → Calls Tryz.prog 32 #[.string y] w0 fun e w' => (∃ u1 u2 u3, e = .returned (.tuple #[refV u1 u2 u3 cb, .int .i64 (on : Nat), .int .i64 0]) ∧ RefIs w' u1 u2 u3 cb) ∧ Below w0.heap.size w0 w') := Lib.hid (fun y w0 hy => by
            have hyz : y.size ≤ 140737488351232 := by
              have h1 : y.data.toList.length = y.size := rfl
              rw [hy, List.length_take] at h1
              omega
            refine (refopen_walk y w0 hyz).mono ?_
            rintro e w' ⟨⟨v, rfl, hv⟩, hb⟩
            rw [hy, ho] at hv
            rw [hy, he, ← hon2]
            obtain ⟨u1, u2, u3, rfl, hr⟩ := hv
            exact ⟨⟨u1, u2, u3, rfl, hr⟩, hb⟩)
          have hext : ∀ k, (tx.extract 0 k).data.toList = b.text.take k := fun k => by
            rw [HTX.out]
            simp [ByteArray.data_extract]
          have HEXT := Lib.hid hext
          have HTS := Lib.hid hts
          have HOB := Lib.hid ho
          have HON := Lib.hid hon2
          obtain ⟨td, htd, htz, hdg⟩ := digs on (by omega)
          have s9 : ¬ (9223372036854775807 : Nat) < 6 + td.size := by omega
          have HTD := Lib.hid htd
          have HDG := Lib.hid hdg
          clear hcl hq1 hq3 htd hdg hts hext ho he hon hon2
          by_cases hlc : tx.size < c
          · have q5 : decide ((tx.size : Int) < (c : Int)) = true := decide_eq_true (by omega)
            go_upto_region 28 with fail
            go_wp2_with fail
            refine (HOP.out _ _ (by first | (rw [HEXT.out, List.take_of_length_le (by rw [← HTS.out]; exact Nat.le_refl _), List.take_of_length_le (by rw [← HTS.out]; omega)]) | (rw [HTX.out, List.take_of_length_le (by rw [← HTS.out]; omega)]))).mono ?_
            rintro e6 w6 ⟨⟨u1, u2, u3, he6, hr6⟩, hb6⟩
            obtain ⟨a7, n7, m7, rfl, -⟩ := hr6.r1.sl
            obtain ⟨a8, n8, m8, rfl, -⟩ := hr6.r2.sl
            obtain ⟨a9, n9, m9, rfl, -⟩ := hr6.r3.sl
            obtain ⟨tx6, htx6⟩ : ∃ tx6 : ByteArray, tx6 = ⟨cb.text.toArray⟩ := ⟨_, rfl⟩
            have he6' : e6 = .returned (.tuple #[.agg #[.slice a7 n7 m7, .slice a8 n8 m8, .slice a9 n9 m9, .string tx6, .int .i64 (cb.T.length : Nat)], .int .i64 (on : Nat), .int .i64 0]) := by
              rw [htx6]
              exact he6
            subst he6'
            obtain ⟨gc, hgc⟩ : ∃ g, g = w6.heap.size := ⟨_, rfl⟩
            obtain ⟨W7, hW7⟩ : ∃ W, W = w6.alloc (.cells #[.slice a7 n7 m7, .slice a8 n8 m8, .slice a9 n9 m9, .string tx6, .int .i64 (cb.T.length : Nat)] 44) := ⟨_, rfl⟩
            have hba : Below w6.heap.size w6 W7 := by rw [hW7]; exact (Below.refl _ _).alloc (Nat.le_refl _) _
            have hC7 : W7.heap[gc]? = some (.cells #[.slice a7 n7 m7, .slice a8 n8 m8, .slice a9 n9 m9, .string tx6, .int .i64 (cb.T.length : Nat)] 44 (0, 0)) := by
              rw [hW7, hgc]
              exact heap_alloc_new w6 _
            have hb8 := hb6.trans (hba.mono hb6.size)
            have HRC := Lib.hid (hr6.below hba)
            have HTX6 := Lib.hid htx6
            have HW7 := Lib.hid hW7
            have HGC := Lib.hid hgc
            have hgl : w.heap.size + 1 < gc := by rw [hgc]; exact Nat.lt_of_lt_of_le (lt_of_heap HYR.out) hb6.size
            have HBF := Lib.hid (HBR.out.trans (hb8.mono HBR.out.size))
            have HY7 := Lib.hid ((hb8.block _ (lt_of_heap HYR.out)).trans HYR.out)
            have HYF : Hid (W7.heap[w.heap.size + 1]? = some (.cells #[.slice none 0 0, .slice none 0 0, .slice none 0 0, .string ⟨#[]⟩, .int .i64 0] 44 (0, 0))) := Lib.hid HY7.out
            obtain ⟨⟨e0, e1, e2, e3, e4⟩, -⟩ := cells5 hC7
            obtain ⟨⟨i0, i1, i2, i3, i4⟩, ⟨z0, z1, z2, z3, z4⟩⟩ := cells5 HY7.out
            clear hb6 hr6 he6 htx6 hba hb8 hC7 hW7 hgc x0 x1 x2 x3 x4 y0 y1 y2 y3 y4 f0 f1 f2 f3 f4 c0
            go_upto_region 29 with fail
            rw [← HW7.out, ← HGC.out]
            clear HW7 HGC
            go_upto_region 31 with fail
            have hS : ∀ w' : World, (∀ x, x ≠ w.heap.size + 1 → w'.heap[x]? = W7.heap[x]?) → (w'.cell? ⟨gc, 0, none⟩ = some (.slice a7 n7 m7) ∧ w'.cell? ⟨gc, 1, none⟩ = some (.slice a8 n8 m8) ∧ w'.cell? ⟨gc, 2, none⟩ = some (.slice a9 n9 m9) ∧ w'.cell? ⟨gc, 3, none⟩ = some (.string tx6) ∧ w'.cell? ⟨gc, 4, none⟩ = some (.int .i64 (cb.T.length : Nat))) := fun w' h => ⟨(cell_of_heap (h gc (by omega)) (0)).trans e0, (cell_of_heap (h gc (by omega)) (1)).trans e1, (cell_of_heap (h gc (by omega)) (2)).trans e2, (cell_of_heap (h gc (by omega)) (3)).trans e3, (cell_of_heap (h gc (by omega)) (4)).trans e4⟩
            have HS := Lib.hid hS
            clear hS
            go_region_held3 (fun w' => w'.cell? ⟨gc, 0, none⟩ = some (.slice a7 n7 m7) ∧ w'.cell? ⟨gc, 1, none⟩ = some (.slice a8 n8 m8) ∧ w'.cell? ⟨gc, 2, none⟩ = some (.slice a9 n9 m9) ∧ w'.cell? ⟨gc, 3, none⟩ = some (.string tx6) ∧ w'.cell? ⟨gc, 4, none⟩ = some (.int .i64 (cb.T.length : Nat)))
              ((refine HS.out _ ?_; intro x hx; repeat (first | refine (heap_setCell_other _ ⟨_, _, none⟩ x _ hx).trans ?_ | exact rfl)))
              ((go_at_call 31; refine (HDG.out _).mono ?_; rintro e7 w7 ⟨rfl, hw7⟩; obtain rfl := hw7))
            all_goals
              go_wp2_with fail
              refine bodyPost_ret (results_row2 (p := 4) (a := 5) rfl rfl (load_bookD (book_put HYF.out HRC.out rfl).2.1)) rfl ⟨?_, (HBF.out.trans ((book_put HYF.out HRC.out rfl).2.2.2.2 _ (by omega))).drew⟩
              rw [HQ.out]
              have e1 : b.ansB (.crash c) = cb := by
                change (openB (b.text.take c)).getD b = cb
                rw [HOB.out]
                rfl
              have e2 : b.ansT (.crash c) = [102, 111, 117, 110, 100, 32] ++ Lib.decDigits on := by
                rw [HON.out]
                rfl
              rw [e1, e2]
              exact AnsRes.is (b' := cb) ((book_put HYF.out HRC.out rfl).1.below (Below.refl _ _).drew) HTX6.out rfl (str_two HTD.out)
          have q5 : decide ((tx.size : Int) < (c : Int)) = false := decide_eq_false (by omega)
          have q6 : (c : Int) ≤ (tx.size : Int) := by omega
          have q7 : (0 : Int) ≤ (c : Int) := by omega
          go_upto_region 28 with fail
          go_wp2_with fail
          refine (HOP.out _ _ (HEXT.out _)).mono ?_
          rintro e6 w6 ⟨⟨u1, u2, u3, he6, hr6⟩, hb6⟩
          obtain ⟨a7, n7, m7, rfl, -⟩ := hr6.r1.sl
          obtain ⟨a8, n8, m8, rfl, -⟩ := hr6.r2.sl
          obtain ⟨a9, n9, m9, rfl, -⟩ := hr6.r3.sl
          obtain ⟨tx6, htx6⟩ : ∃ tx6 : ByteArray, tx6 = ⟨cb.text.toArray⟩ := ⟨_, rfl⟩
          have he6' : e6 = .returned (.tuple #[.agg #[.slice a7 n7 m7, .slice a8 n8 m8, .slice a9 n9 m9, .string tx6, .int .i64 (cb.T.length : Nat)], .int .i64 (on : Nat), .int .i64 0]) := by
            rw [htx6]
            exact he6
          subst he6'
          obtain ⟨gc, hgc⟩ : ∃ g, g = w6.heap.size := ⟨_, rfl⟩
          obtain ⟨W7, hW7⟩ : ∃ W, W = w6.alloc (.cells #[.slice a7 n7 m7, .slice a8 n8 m8, .slice a9 n9 m9, .string tx6, .int .i64 (cb.T.length : Nat)] 44) := ⟨_, rfl⟩
          have hba : Below w6.heap.size w6 W7 := by rw [hW7]; exact (Below.refl _ _).alloc (Nat.le_refl _) _
          have hC7 : W7.heap[gc]? = some (.cells #[.slice a7 n7 m7, .slice a8 n8 m8, .slice a9 n9 m9, .string tx6, .int .i64 (cb.T.length : Nat)] 44 (0, 0)) := by
            rw [hW7, hgc]
            exact heap_alloc_new w6 _
          have hb8 := hb6.trans (hba.mono hb6.size)
          have HRC := Lib.hid (hr6.below hba)
          have HTX6 := Lib.hid htx6
          have HW7 := Lib.hid hW7
          have HGC := Lib.hid hgc
          have hgl : w.heap.size + 1 < gc := by rw [hgc]; exact Nat.lt_of_lt_of_le (lt_of_heap HYR.out) hb6.size
          have HBF := Lib.hid (HBR.out.trans (hb8.mono HBR.out.size))
          have HY7 := Lib.hid ((hb8.block _ (lt_of_heap HYR.out)).trans HYR.out)
          have HYF : Hid (W7.heap[w.heap.size + 1]? = some (.cells #[.slice none 0 0, .slice none 0 0, .slice none 0 0, .string ⟨#[]⟩, .int .i64 0] 44 (0, 0))) := Lib.hid HY7.out
          obtain ⟨⟨e0, e1, e2, e3, e4⟩, -⟩ := cells5 hC7
          obtain ⟨⟨i0, i1, i2, i3, i4⟩, ⟨z0, z1, z2, z3, z4⟩⟩ := cells5 HY7.out
          clear hb6 hr6 he6 htx6 hba hb8 hC7 hW7 hgc x0 x1 x2 x3 x4 y0 y1 y2 y3 y4 f0 f1 f2 f3 f4 c0
          go_upto_region 29 with fail
          rw [← HW7.out, ← HGC.out]
          clear HW7 HGC
          go_upto_region 31 with fail
          have hS : ∀ w' : World, (∀ x, x ≠ w.heap.size + 1 → w'.heap[x]? = W7.heap[x]?) → (w'.cell? ⟨gc, 0, none⟩ = some (.slice a7 n7 m7) ∧ w'.cell? ⟨gc, 1, none⟩ = some (.slice a8 n8 m8) ∧ w'.cell? ⟨gc, 2, none⟩ = some (.slice a9 n9 m9) ∧ w'.cell? ⟨gc, 3, none⟩ = some (.string tx6) ∧ w'.cell? ⟨gc, 4, none⟩ = some (.int .i64 (cb.T.length : Nat))) := fun w' h => ⟨(cell_of_heap (h gc (by omega)) (0)).trans e0, (cell_of_heap (h gc (by omega)) (1)).trans e1, (cell_of_heap (h gc (by omega)) (2)).trans e2, (cell_of_heap (h gc (by omega)) (3)).trans e3, (cell_of_heap (h gc (by omega)) (4)).trans e4⟩
          have HS := Lib.hid hS
          clear hS
          go_region_held3 (fun w' => w'.cell? ⟨gc, 0, none⟩ = some (.slice a7 n7 m7) ∧ w'.cell? ⟨gc, 1, none⟩ = some (.slice a8 n8 m8) ∧ w'.cell? ⟨gc, 2, none⟩ = some (.slice a9 n9 m9) ∧ w'.cell? ⟨gc, 3, none⟩ = some (.string tx6) ∧ w'.cell? ⟨gc, 4, none⟩ = some (.int .i64 (cb.T.length : Nat)))
            ((refine HS.out _ ?_; intro x hx; repeat (first | refine (heap_setCell_other _ ⟨_, _, none⟩ x _ hx).trans ?_ | exact rfl)))
            ((go_at_call 31; refine (HDG.out _).mono ?_; rintro e7 w7 ⟨rfl, hw7⟩; obtain rfl := hw7))
          all_goals
            go_wp2_with fail
            refine bodyPost_ret (results_row2 (p := 4) (a := 5) rfl rfl (load_bookD (book_put HYF.out HRC.out rfl).2.1)) rfl ⟨?_, (HBF.out.trans ((book_put HYF.out HRC.out rfl).2.2.2.2 _ (by omega))).drew⟩
            rw [HQ.out]
            have e1 : b.ansB (.crash c) = cb := by
              change (openB (b.text.take c)).getD b = cb
              rw [HOB.out]
              rfl
            have e2 : b.ansT (.crash c) = [102, 111, 117, 110, 100, 32] ++ Lib.decDigits on := by
              rw [HON.out]
              rfl
            rw [e1, e2]
            exact AnsRes.is (b' := cb) ((book_put HYF.out HRC.out rfl).1.below (Below.refl _ _).drew) HTX6.out rfl (str_two HTD.out)
        · have hq2 : ((mm : Int) == 1) = false := beq_eq_false_iff_ne.2 (by omega)
          have HQ := Lib.hid (HQR.out.trans (reqOf_bad (fun h => hvw (by rw [ByteArray.toList_eq]; exact h.1)) (fun h => hvd (by rw [ByteArray.toList_eq]; exact h.1)) (fun h => hvr (by rw [ByteArray.toList_eq]; exact h.1)) (fun h => hva (by rw [ByteArray.toList_eq]; exact h.1)) (fun h => hcc (HMN.out.trans h.2))))
          go_wp2_with fail
          all_goals
            refine bodyPost_ret (results_row2 (p := 4) (a := 5) rfl rfl (load_book (book_put HYR.out HRR.out rfl).2.1)) rfl ⟨?_, HBR.out.trans ((book_put HYR.out HRR.out rfl).2.2.2.2 _ (by omega))⟩
            rw [HQ.out]
            exact AnsRes.is (b' := b) (t := [98, 97, 100]) (book_put HYR.out HRR.out rfl).1 HTX.out HM.out rfl
      have HQ := Lib.hid (HQR.out.trans (reqOf_bad (fun h => hvw (by rw [ByteArray.toList_eq]; exact h.1)) (fun h => hvd (by rw [ByteArray.toList_eq]; exact h.1)) (fun h => hvr (by rw [ByteArray.toList_eq]; exact h.1)) (fun h => hva (by rw [ByteArray.toList_eq]; exact h.1)) (fun h => hvc (by rw [ByteArray.toList_eq]; exact h.1))))
      go_wp2_with fail
      all_goals
        refine bodyPost_ret (results_row2 (p := 4) (a := 5) rfl rfl (load_book (book_put HYR.out HRR.out rfl).2.1)) rfl ⟨?_, HBR.out.trans ((book_put HYR.out HRR.out rfl).2.2.2.2 _ (by omega))⟩
        rw [HQ.out]
        exact AnsRes.is (b' := b) (t := [98, 97, 100]) (book_put HYR.out HRR.out rfl).1 HTX.out HM.out rfl

end Go.Proofs.YtegibgflhhdddaaGreatDoor
