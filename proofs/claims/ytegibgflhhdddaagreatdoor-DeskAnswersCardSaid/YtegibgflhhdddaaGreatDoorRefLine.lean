/- The reference reads a line. -/
import Derived.Test.YtegibgflhhdddaaGreatDoorRefCut
import Derived.Deep.RegionHeld3
namespace Go.Proofs.YtegibgflhhdddaaGreatDoor
open Go.RowKit

/-- a book is put into a variable -/
theorem book_put {w w' : World} {gx : Nat} {a0 a1 a2 a3 a4 u1 u2 u3 x4 x5 : Value} {b' : Bk} (hx : w.heap[gx]? = some (.cells #[a0, a1, a2, a3, a4] 44 (0, 0))) (hr : RefIs w u1 u2 u3 b')
    (hw : w' = ((((w.setCell ⟨gx, 0, none⟩ u1).setCell ⟨gx, 1, none⟩ u2).setCell ⟨gx, 2, none⟩ u3).setCell ⟨gx, 3, none⟩ x4).setCell ⟨gx, 4, none⟩ x5) :
    RefIs w' u1 u2 u3 b' ∧ w'.heap[gx]? = some (.cells #[u1, u2, u3, x4, x5] 44 (0, 0)) ∧ (∀ x, x ≠ gx → w'.heap[x]? = w.heap[x]?) ∧ w'.heap.size = w.heap.size ∧ ∀ B, B ≤ gx → Below B w w' := by
  have hz : ∀ (w0 : World) (o : Nat) (u : Value) (x : Nat), x ≠ gx → (w0.setCell ⟨gx, o, none⟩ u).heap[x]? = w0.heap[x]? := fun w0 o u x hx => heap_setCell_other w0 ⟨gx, o, none⟩ x u hx
  have hall : ∀ x, x ≠ gx → w'.heap[x]? = w.heap[x]? := fun x hx => by
    rw [hw, hz _ _ _ _ hx, hz _ _ _ _ hx, hz _ _ _ _ hx, hz _ _ _ _ hx, hz _ _ _ _ hx]
  have hsz : w'.heap.size = w.heap.size := by rw [hw]; simp
  have hfar : ∀ (v : Value) (L : List Int), HasInts w v L → IntRow w v → HasInts w' v L ∧ IntRow w' v := by
    intro v L hv hi
    obtain ⟨a, cap, rfl, h2, h3, h4⟩ := hv
    have hne : ∀ x, a = some x → x.block ≠ gx := fun x hx' e => by
      obtain ⟨cs, fr, hh⟩ := hi x _ _ (by rw [hx'])
      rw [e, hx] at hh
      simp at hh
    rw [hw]
    refine ⟨((((HasInts.far ⟨a, cap, rfl, h2, h3, h4⟩ hne).far hne).far hne).far hne).far hne, fun x n c e => ?_⟩
    obtain ⟨cs, fr, hh⟩ := hi x n c e
    rw [← hw]
    exact ⟨cs, fr, (hall _ (hne x (by cases e; rfl))).trans hh⟩
  refine ⟨⟨(hfar _ _ hr.r1 hr.i1).1, (hfar _ _ hr.r2 hr.i2).1, (hfar _ _ hr.r3 hr.i3).1, hr.n2, hr.n3, (hfar _ _ hr.r1 hr.i1).2, (hfar _ _ hr.r2 hr.i2).2, (hfar _ _ hr.r3 hr.i3).2⟩, ?_, hall, hsz, fun B hB => ?_⟩
  · rw [hw]
    exact fill5 hx _ _ _ _ _
  · rw [hw]
    exact (((((Below.refl B w).setCell (p := ⟨gx, 0, none⟩) hB _).setCell (p := ⟨gx, 1, none⟩) hB _).setCell (p := ⟨gx, 2, none⟩) hB _).setCell (p := ⟨gx, 3, none⟩) hB _).setCell (p := ⟨gx, 4, none⟩) hB _

theorem cells5 {w : World} {g : Nat} {T : TypeId} {a0 a1 a2 a3 a4 : Value} (h : w.heap[g]? = some (.cells #[a0, a1, a2, a3, a4] T (0, 0))) : (w.cell? ⟨g, 0, none⟩ = some a0 ∧ w.cell? ⟨g, 1, none⟩ = some a1 ∧ w.cell? ⟨g, 2, none⟩ = some a2 ∧ w.cell? ⟨g, 3, none⟩ = some a3 ∧ w.cell? ⟨g, 4, none⟩ = some a4) ∧
    (w.frozen? ⟨g, 0, none⟩ = false ∧ w.frozen? ⟨g, 1, none⟩ = false ∧ w.frozen? ⟨g, 2, none⟩ = false ∧ w.frozen? ⟨g, 3, none⟩ = false ∧ w.frozen? ⟨g, 4, none⟩ = false) := by
  refine ⟨⟨?_, ?_, ?_, ?_, ?_⟩, ⟨?_, ?_, ?_, ?_, ?_⟩⟩ <;> first | (unfold World.cell?; simp only; rw [h]; rfl) | (unfold World.frozen?; simp only; rw [h]; rfl)

theorem cut_at {s : ByteArray} {j : Nat} (hj : j < s.size) (hc : s[j] = 32) (hn : (32 : UInt8) ∉ s.data.toList.drop (j + 1)) : s.data.toList = s.data.toList.take j ++ 32 :: s.data.toList.drop (j + 1) ∧ lastCut 32 s.data.toList = some (s.data.toList.take j, s.data.toList.drop (j + 1)) := by
  have hl : s.data.toList.length = s.size := rfl
  have e : s.data.toList = s.data.toList.take j ++ 32 :: s.data.toList.drop (j + 1) := by
    have h5 := (List.take_append_drop j s.data.toList).symm
    rw [List.drop_eq_getElem_cons (l := s.data.toList) (i := j) (by rw [hl]; exact hj)] at h5
    have h6 : s.data.toList[j] = 32 := hc
    rw [h6] at h5
    exact h5
  exact ⟨e, lastCut_some.2 ⟨e, hn⟩⟩

theorem RefRes.bad {w : World} {v1 v2 v3 : Value} {b : Bk} {l : List UInt8} {q m : Nat} {tx : ByteArray} (h : RefIs w v1 v2 v3 b) (hq : parse l = .bad q) (htx : tx = ⟨b.text.toArray⟩) (hm : m = b.T.length) :
    RefRes (b.cmd (parse l)) #[.int .i64 (b.cmdE (parse l) : Nat)] (.returned (.tuple #[.agg #[v1, v2, v3, .string tx, .int .i64 (m : Nat)], .int .i64 (q : Nat)])) w := by
  rw [hq]
  exact ⟨v1, v2, v3, by rw [htx, hm]; rfl, h⟩
theorem RefRes.is {w : World} {v1 v2 v3 : Value} {b' : Bk} {q m : Nat} {tx : ByteArray} (h : RefIs w v1 v2 v3 b') (htx : tx = ⟨b'.text.toArray⟩) (hm : m = b'.T.length) :
    RefRes b' #[.int .i64 (q : Nat)] (.returned (.tuple #[.agg #[v1, v2, v3, .string tx, .int .i64 (m : Nat)], .int .i64 (q : Nat)])) w :=
  ⟨v1, v2, v3, by rw [htx, hm]; rfl, h⟩

set_option maxRecDepth 100000 in
set_option maxHeartbeats 8000000 in
theorem refline_walk (w : World) (v1 v2 v3 : Value) (b : Bk) (s : ByteArray) (hr : RefIs w v1 v2 v3 b) (hok : b.ok) (hs : s.size ≤ 100000) :
    Calls Tryz.prog 51 #[refV v1 v2 v3 b, .string s] w fun e w' => RefRes (b.cmd (parse s.data.toList)) #[.int .i64 (b.cmdE (parse s.data.toList) : Nat)] e w' ∧ Below w.heap.size w w' := by
  obtain ⟨a1, n1, m1, rfl, -⟩ := hr.r1.sl
  obtain ⟨a2, n2, m2, rfl, -⟩ := hr.r2.sl
  obtain ⟨a3, n3, m3, rfl, -⟩ := hr.r3.sl
  obtain ⟨tx, htx⟩ := named b.text
  have HTX := Lib.hid htx
  unfold refV
  rw [← htx]
  have hl : s.data.toList.length = s.size := rfl
  have HL := Lib.hid hl
  obtain ⟨m, hm⟩ : ∃ m, m = b.T.length := ⟨_, rfl⟩
  have HM := Lib.hid hm
  have HOK := Lib.hid hok
  rw [← hm]
  obtain ⟨W1, hW1⟩ : ∃ W1, W1 = (w.alloc (.cells #[.slice a1 n1 m1, .slice a2 n2 m2, .slice a3 n3 m3, .string tx, .int .i64 (m : Nat)] 44)).alloc (.cells #[.slice none 0 0, .slice none 0 0, .slice none 0 0, .string ⟨#[]⟩, .int .i64 0] 44) := ⟨_, rfl⟩
  have hbl : Below w.heap.size w W1 := by rw [hW1]; exact ((Below.refl _ _).alloc (Nat.le_refl _) _).alloc (by simp) _
  have hX : W1.heap[w.heap.size]? = some (.cells #[.slice a1 n1 m1, .slice a2 n2 m2, .slice a3 n3 m3, .string tx, .int .i64 (m : Nat)] 44 (0, 0)) := by
    rw [hW1]
    exact (Below.heap_alloc _ _ _ (by simp)).trans (heap_alloc_new w _)
  have hY : W1.heap[w.heap.size + 1]? = some (.cells #[.slice none 0 0, .slice none 0 0, .slice none 0 0, .string ⟨#[]⟩, .int .i64 0] 44 (0, 0)) := by
    rw [hW1]
    have h := heap_alloc_new (w.alloc (.cells #[.slice a1 n1 m1, .slice a2 n2 m2, .slice a3 n3 m3, .string tx, .int .i64 (m : Nat)] 44)) (.cells #[.slice none 0 0, .slice none 0 0, .slice none 0 0, .string ⟨#[]⟩, .int .i64 0] 44)
    rw [World.size_alloc] at h
    exact h
  have HBL := Lib.hid hbl
  have HX := Lib.hid hX
  have HY := Lib.hid hY
  have HR := Lib.hid (hr.below hbl)
  have HW1 := Lib.hid hW1
  clear hr htx hl hm hbl hX hY hW1 hok
  go_enter Tryz.func51, Tryz.ntmps51
  go_wp2_with fail
  rw [← HW1.out]
  clear HW1
  go_loop [6] (fun ix => ∃ k : Nat, k ≤ s.size ∧ ix = .int .i64 ((k : Int) - 1) ∧ (32 : UInt8) ∉ s.data.toList.drop k) (fun ix => (intOf ix + 1).toNat)
  case atStart =>
    refine ⟨s.size, Nat.le_refl _, ?_, ?_⟩
    · first | rfl | (congr 1; exact IntWalk.i64_in _ (by omega)) | (congr 1)
    · rw [List.drop_of_length_le (by rw [HL.out]; exact Nat.le_refl _)]
      simp
  case round =>
    obtain ⟨k, hk, rfl, hno⟩ := hrel
    have HNO := Lib.hid hno
    clear hno
    obtain ⟨⟨x0, x1, x2, x3, x4⟩, -⟩ := cells5 HX.out
    obtain ⟨⟨y0, y1, y2, y3, y4⟩, ⟨f0, f1, f2, f3, f4⟩⟩ := cells5 HY.out
    cases k with
    | zero =>
      have HP : Hid (parse s.data.toList = .bad 2) := Lib.hid (parse_none (lastCut_none.2 (by have h := HNO.out; rwa [List.drop_zero] at h)))
      have q1 : decide ((0 : Int) ≤ ((0 : Nat) : Int) - 1) = false := decide_eq_false (by omega)
      go_wp2_with fail
      refine bodyPost_ret (results_row2 (p := 4) (a := 5) rfl rfl (load_book (book_put HY.out HR.out rfl).2.1)) rfl ⟨RefRes.bad (q := 2) (book_put HY.out HR.out rfl).1 HP.out HTX.out HM.out, HBL.out.trans ((book_put HY.out HR.out rfl).2.2.2.2 _ (by omega))⟩
    | succ j =>
      have e : (((j + 1 : Nat) : Int) - 1) = (j : Int) := by omega
      rw [e]
      clear e
      have hj : j < s.size := by omega
      have q1 : decide ((0 : Int) ≤ (j : Int)) = true := decide_eq_true (by omega)
      by_cases hc : s[j] = 32
      rotate_left
      · have q2 : (((s[j]).toNat : Int) != 32) = true := bne_iff_ne.2 (fun e => hc (UInt8.toNat_inj.1 (by have h : (32 : UInt8).toNat = 32 := rfl; rw [h]; omega)))
        have HN2 : Hid ((32 : UInt8) ∉ s.data.toList.drop j) := Lib.hid (by
          rw [List.drop_eq_getElem_cons (l := s.data.toList) (i := j) (by rw [HL.out]; exact hj)]
          rw [List.mem_cons, not_or]
          exact ⟨fun e => hc e.symm, HNO.out⟩)
        clear hc x0 x1 x2 x3 x4 y0 y1 y2 y3 y4 f0 f1 f2 f3 f4
        go_wp2_with fail
        go_round
        case rel => exact ⟨j, by omega, by first | rfl | (congr 1; omega) | (congr 1; rw [IntWalk.i64_in _ (by omega)]; try omega), HN2.out⟩
        case measure => first | (simp [intOf]; done) | (simp [intOf]; omega)
      have q2 : (((s[j]).toNat : Int) != 32) = false := by rw [hc]; rfl
      have q3 : decide ((j : Int) < 0) = false := decide_eq_false (by omega)
      obtain ⟨hcat, hlc⟩ := cut_at hj hc HNO.out
      have htk : (s.data.toList.take j).length = j := by rw [List.length_take, HL.out]; omega
      have hdt : (s.extract (j + 1) s.size).data.toList = s.data.toList.drop (j + 1) := by
        have h := ext_tail (s := s) (wd := s.data.toList.take j) (nm := s.data.toList.drop (j + 1)) hcat
        rw [htk] at h
        exact h
      have hdh : (s.extract 0 j).data.toList = s.data.toList.take j := by
        have h := ext_head (s := s) (wd := s.data.toList.take j) (nm := s.data.toList.drop (j + 1)) hcat
        rw [htk] at h
        exact h
      have HLC := Lib.hid hlc
      have HDT := Lib.hid hdt
      have HDH := Lib.hid hdh
      have s0 : IntKind.i64.wrap ((j : Int) + 1) = (j : Int) + 1 := IntWalk.i64_in _ (by omega)
      have s1 : ((j : Int) + 1).toNat = j + 1 := by omega
      have s2 : (0 : Int) ≤ (j : Int) + 1 := by omega
      have s3 : (j : Int) + 1 ≤ (s.size : Int) := by omega
      have s4 : (j : Int) ≤ (s.size : Int) := by omega
      clear hc hcat hlc htk hdt hdh HNO
      go_wp2_with fail
      refine (refnum_walk _ W1 (by rw [ByteArray.size_extract]; omega)).mono ?_
      rintro e w2 ⟨⟨n0, ok, rfl, hcase⟩, hw⟩
      obtain rfl := hw
      rw [HDT.out] at hcase
      rcases hcase with ⟨rfl, u, rfl, hn⟩ | ⟨rfl, hn⟩
      rotate_left
      · have HP := Lib.hid (parse_num HLC.out hn)
        clear hn
        go_wp2_with fail
        refine bodyPost_ret (results_row2 (p := 4) (a := 5) rfl rfl (load_book (book_put HY.out HR.out rfl).2.1)) rfl ⟨RefRes.bad (q := 2) (book_put HY.out HR.out rfl).1 HP.out HTX.out HM.out, HBL.out.trans ((book_put HY.out HR.out rfl).2.2.2.2 _ (by omega))⟩
      have HN := Lib.hid hn
      clear hn
      have hbnd : (s.extract 0 j).size ≤ 100000 := by rw [ByteArray.size_extract]; omega
      have HSUM := Lib.hid (refsum_walk (s.extract 0 j) W1 hbnd)
      rw [HDH.out] at HSUM
      go_wp2_with fail
      refine HSUM.out.mono ?_
      rintro e w2 ⟨rfl, hw⟩
      obtain rfl := hw
      by_cases heq : u = wsum (s.data.toList.take j)
      rotate_left
      · have q4 : ((u : Int) != (wsum (s.data.toList.take j) : Nat)) = true := bne_iff_ne.2 (by omega)
        have HP := Lib.hid (parse_clash HLC.out HN.out heq)
        clear heq
        go_wp2_with fail
        refine bodyPost_ret (results_row2 (p := 4) (a := 5) rfl rfl (load_book (book_put HY.out HR.out rfl).2.1)) rfl ⟨RefRes.bad (q := 6) (book_put HY.out HR.out rfl).1 HP.out HTX.out HM.out, HBL.out.trans ((book_put HY.out HR.out rfl).2.2.2.2 _ (by omega))⟩
      subst heq
      have q4 : ((wsum (s.data.toList.take j) : Nat) != ((wsum (s.data.toList.take j) : Nat) : Int)) = false := by simp
      have HCW : Hid (Calls Tryz.prog 26 #[.string (s.extract 0 j), .int .u8 32] W1 fun e w' => (∃ v L, e = .returned v ∧ w'.ownsRow W1.heap.size 9 1 v L.length (strsV L) ∧ L.map (·.data.toList) = cutAt 32 (s.extract 0 j).data.toList ∧ L.length ≤ (s.extract 0 j).size + 1) ∧ Below W1.heap.size W1 w') := Lib.hid (refcut_walk (s.extract 0 j) 32 W1 (by omega))
      go_wp2_with fail
      refine HCW.out.mono ?_
      rintro e w5 ⟨⟨v, L, rfl, hown, hLd, hLn⟩, hb5⟩
      rw [HDH.out] at hLd
      obtain ⟨x, t, rfl⟩ : ∃ x t, L = x :: t := by
        cases L with
        | nil => exact absurd hLd.symm (cutAt_ne 32 _)
        | cons x t => exact ⟨x, t, rfl⟩
      obtain ⟨n, hn⟩ : ∃ n, n = t.length := ⟨_, rfl⟩
      rw [List.length_cons, ← hn] at hown hLn
      obtain ⟨yy, cap, rfl, hown2⟩ := own_some hown (by omega)
      have hstr : ∀ (j : Nat) (y : ByteArray), (x :: t)[j]? = some y → w5.cell? ⟨yy, j, none⟩ = some (.string y) := fun j y hj => by
        have hjl : j < n + 1 := by have := (List.getElem?_eq_some_iff.1 hj).1; rw [List.length_cons, ← hn] at this; exact this
        rw [hown2.cellAt j (by omega)]
        unfold strsV
        rw [List.getElem?_map, hj]
        rfl
      have hyl : yy < w5.heap.size := (hown2.lt yy rfl).2
      have HT := Lib.hid hn
      have HLD := Lib.hid hLd
      have HSTR := Lib.hid hstr
      have HYL := Lib.hid hyl
      have HB5 := Lib.hid (HBL.out.trans (hb5.mono HBL.out.size))
      have HX5 := Lib.hid ((hb5.block _ (Array.getElem?_eq_some_iff.1 HX.out).1).trans HX.out)
      have HY5 := Lib.hid ((hb5.block _ (Array.getElem?_eq_some_iff.1 HY.out).1).trans HY.out)
      have HR5 := Lib.hid (HR.out.below hb5)
      have hln : n ≤ 100000 := by omega
      clear hown hown2 hLd hstr hyl hb5 hLn hn HSUM HCW x0 x1 x2 x3 x4 y0 y1 y2 y3 y4 f0 f1 f2 f3 f4
      go_wp2_with fail
      clear q1 q2 q3 q4 s0 s1 s2 s3 s4
      go_loopw [10, 11] (fun v ix wr => ∃ (k : Nat) (ns : List Nat), k ≤ n ∧ ix = .int .i64 ((k : Int) + 1) ∧ nums ((t.take k).map (·.data.toList)) = some ns ∧ wr.ownsRow w5.heap.size 3 1 v ns.length (ints (natsB ns)) ∧ Below w5.heap.size w5 wr) (fun _ ix _ => n + 1 - (intOf ix).toNat)
      case atStart => exact ⟨0, [], Nat.zero_le _, rfl, rfl, World.ownsRow_nil .., Below.refl ..⟩
      case round =>
        obtain ⟨k, ns, hk, rfl, hns, hown, hbc⟩ := hrel
        have HNS := Lib.hid hns
        have HOWN := Lib.hid hown
        have HBC := Lib.hid hbc
        have HBR := Lib.hid (HB5.out.trans (hbc.mono HB5.out.size))
        have hlen : ns.length = k := by
          have h1 := nums_take hns
          rw [List.length_map, List.length_take] at h1
          have := HT.out
          omega
        have HXR := Lib.hid ((hbc.block _ (Array.getElem?_eq_some_iff.1 HX5.out).1).trans HX5.out)
        have HYR := Lib.hid ((hbc.block _ (Array.getElem?_eq_some_iff.1 HY5.out).1).trans HY5.out)
        have HRR := Lib.hid (HR5.out.below hbc)
        obtain ⟨⟨x0, x1, x2, x3, x4⟩, -⟩ := cells5 HXR.out
        obtain ⟨⟨y0, y1, y2, y3, y4⟩, ⟨f0, f1, f2, f3, f4⟩⟩ := cells5 HYR.out
        clear hns hown hbc
        by_cases hlt : k < n
        · have hq1 : decide (k < n) = true := decide_eq_true hlt
          have hq2 : decide ((k : Int) < (n : Int)) = true := decide_eq_true (by omega)
          have hq3 : decide ((k : Int) + 1 < (n : Int) + 1) = true := decide_eq_true (by omega)
          obtain ⟨y, hy⟩ : ∃ y, t[k]? = some y := ⟨_, List.getElem?_eq_getElem (by have := HT.out; omega)⟩
          have hcy : wr.cell? ⟨yy, k + 1, none⟩ = some (.string y) := (HBC.out.cell (p := ⟨yy, k + 1, none⟩) HYL.out).trans (HSTR.out (k + 1) y (by rw [List.getElem?_cons_succ]; exact hy))
          have hysz : y.size ≤ 100000 := by
            have h1 : y.data.toList ∈ cutAt 32 (s.data.toList.take j) := by
              rw [← HLD.out, List.map_cons]
              exact List.mem_cons_of_mem _ (List.mem_map_of_mem (List.mem_of_getElem? hy))
            have h2 := cutAt_len h1
            have h3 : y.data.toList.length = y.size := rfl
            rw [List.length_take, HL.out] at h2
            omega
          have HY2 := Lib.hid hy
          have s1 : ((k : Int) + 1).toNat = k + 1 := by omega
          have s2 : (0 : Int) ≤ (k : Int) + 1 := by omega
          have s3 : (k : Int) + 1 < (n : Int) + 1 := by omega
          clear hy
          go_wp2_with fail
          refine (refnum_walk y wr (by omega)).mono ?_
          rintro e w6 ⟨⟨n0, ok, rfl, hcase⟩, hw⟩
          obtain rfl := hw
          have htake : (t.take (k + 1)).map (·.data.toList) = (t.take k).map (·.data.toList) ++ [y.data.toList] := by
            rw [List.take_succ_eq_append_getElem (List.getElem?_eq_some_iff.1 HY2.out).1, (List.getElem?_eq_some_iff.1 HY2.out).2]
            simp
          have HTK := Lib.hid htake
          clear htake
          rcases hcase with ⟨rfl, u, rfl, hn⟩ | ⟨rfl, hn⟩
          rotate_left
          · have hnn : nums (t.map (·.data.toList)) = none := by
              have h1 := nums_snoc (L := (t.take k).map (·.data.toList)) (s := y.data.toList)
              rw [HNS.out, hn] at h1
              have h2 := nums_prefix (M := (t.drop (k + 1)).map (·.data.toList)) (h1.trans rfl)
              rw [← HTK.out, ← List.map_append, List.take_append_drop] at h2
              exact h2
            have HP := Lib.hid (parse_nums HLC.out HN.out HLD.out.symm hnn)
            clear hn hnn
            go_wp2_with fail
            refine bodyPost_ret (results_row2 (p := 4) (a := 5) rfl rfl (load_book (book_put HYR.out HRR.out rfl).2.1)) rfl ⟨RefRes.bad (q := 2) (book_put HYR.out HRR.out rfl).1 HP.out HTX.out HM.out, HBR.out.trans ((book_put HYR.out HRR.out rfl).2.2.2.2 _ (by omega))⟩
          have HN1 := Lib.hid hn
          have HM1 := Lib.hid (show ns.length + 1 ≤ maxLen from by unfold maxLen; omega)
          have HM2 := Lib.hid (show (ns.length + 1) * 8 ≤ 140737488355328 from by omega)
          clear hn x0 x1 x2 x3 x4 y0 y1 y2 y3 y4 f0 f1 f2 f3 f4
          go_wp2_with (at_builtin; go_must (refine wpList_push (.int .i64 0) 8 HOWN.out Tryz.underlying42 infoInt6 rfl rfl rfl rfl HM1.out HM2.out HBC.out.size ?_; intro v' w7 hown1 hbel1 _; have HO7 := Lib.hid hown1; have HC7 := Lib.hid (HBC.out.trans hbel1); clear hown1 hbel1))
          go_roundw
          case rel =>
            refine ⟨k + 1, ns ++ [u], by omega, by first | (congr 1; omega) | (congr 1; rw [IntWalk.i64_in _ (by omega)]; omega) | go_num, ?_, ?_, HC7.out⟩
            · rw [HTK.out, nums_snoc, HNS.out, HN1.out]
              rfl
            · have h := HO7.out
              simp only [natsB, List.map_append, ints, List.length_append] at h ⊢
              exact h
          case measure => simp [intOf]; omega
        · obtain rfl : k = n := by omega
          have hq1 : decide (k < k) = false := decide_eq_false (Nat.lt_irrefl _)
          have hq3 : decide ((k : Int) + 1 < (k : Int) + 1) = false := decide_eq_false (by omega)
          have hcx : wr.cell? ⟨yy, 0, none⟩ = some (.string x) := (HBC.out.cell (p := ⟨yy, 0, none⟩) HYL.out).trans (HSTR.out 0 x rfl)
          obtain ⟨hvn, hv⟩ := HasInts.of_own HOWN.out
          obtain ⟨mm, hmm⟩ : ∃ m, m = (natsB ns).length := ⟨_, rfl⟩
          have hmn : mm = ns.length := by omega
          obtain ⟨va, vcap, rfl, hv2, hv3, hv4⟩ := hv
          rw [← hmm] at hv4 ⊢
          have HMN := Lib.hid hmn
          have HV4 := Lib.hid hv4
          have hnsf : nums (t.map (·.data.toList)) = some ns := by
            have := HNS.out
            rw [List.take_of_length_le (by have := HT.out; omega)] at this
            exact this
          have HPR := Lib.hid (parse_cmd HLC.out HN.out HLD.out.symm hnsf)
          clear hvn hmm hmn hv2 hv3 hv4 hnsf hlen
          by_cases h1 : x.toList = [119]
          · by_cases h2 : mm = 2
            · subst h2
              obtain ⟨p, q, rfl⟩ : ∃ p q, ns = [p, q] := by
                have h3 := HMN.out
                match ns, h3 with
                | [p, q], _ => exact ⟨p, q, rfl⟩
              obtain ⟨lb, lo, rfl, hlb, hcl⟩ := HV4.out (by omega)
              have c0 : wr.cell? ⟨lb, lo, none⟩ = some (.int .i64 (p : Nat)) := hcl 0 _ rfl
              have c1 : wr.cell? ⟨lb, lo + 1, none⟩ = some (.int .i64 (q : Nat)) := hcl 1 _ rfl
              have HP : Hid (parse s.data.toList = .w p q) := Lib.hid (HPR.out.trans (cmdOf_w (str_eq (y := ⟨#[119]⟩) (by rw [← ByteArray.toList_eq]; exact h1)) rfl))
              have HC0 := Lib.hid c0
              have HC1 := Lib.hid c1
              clear hcl
              clear hq1 hq3
              go_upto_region 21 with fail
              go_region_law (go_simp; go_at_call 28; rw [HTX.out, HM.out]; refine (refwrite_walk _ _ _ _ b (p : Int) (q : Int) (HRR.out.below (Below.refl wr.heap.size wr).drew) HOK.out).mono ?_; rintro e6 w6 ⟨⟨u1, u2, u3, he6, hr6⟩, hb6⟩; obtain ⟨a7, n7, m7, rfl, -⟩ := hr6.r1.sl; obtain ⟨a8, n8, m8, rfl, -⟩ := hr6.r2.sl; obtain ⟨a9, n9, m9, rfl, -⟩ := hr6.r3.sl; obtain ⟨tx6, htx6⟩ : ∃ tx6 : ByteArray, tx6 = ⟨(b.write p q).text.toArray⟩ := ⟨_, rfl⟩; have he6' : e6 = .returned (.tuple #[.agg #[.slice a7 n7 m7, .slice a8 n8 m8, .slice a9 n9 m9, .string tx6, .int .i64 ((b.write p q).T.length : Nat)], .int .i64 (b.writeE p q : Nat)]) := (by rw [htx6]; exact he6); subst he6'; have hb6' : Below wr.heap.size wr w6 := (Below.refl wr.heap.size wr).drew.trans hb6; have HR6 := Lib.hid hr6; have HTX6 := Lib.hid htx6; have HB6 := Lib.hid (HBR.out.trans (hb6'.mono HBR.out.size)); have HY6 := Lib.hid ((hb6'.block _ (Array.getElem?_eq_some_iff.1 HYR.out).1).trans HYR.out); obtain ⟨⟨e0, e1, e2, e3, e4⟩, ⟨z0, z1, z2, z3, z4⟩⟩ := cells5 HY6.out; clear hb6' hb6 hr6 he6 htx6 x0 x1 x2 x3 x4 y0 y1 y2 y3 y4 f0 f1 f2 f3 f4)
              all_goals
                go_wp2_with fail
                refine bodyPost_ret (results_row2 (p := 4) (a := 5) rfl rfl (load_book (book_put HY6.out HR6.out rfl).2.1)) rfl ⟨?_, HB6.out.trans ((book_put HY6.out HR6.out rfl).2.2.2.2 _ (by omega))⟩
                rw [HP.out]
                exact RefRes.is (book_put HY6.out HR6.out rfl).1 HTX6.out rfl
            · have hq2 : ((mm : Int) == 2) = false := beq_eq_false_iff_ne.2 (by omega)
              have HP := Lib.hid (HPR.out.trans (cmdOf_bad (fun h => h2 (HMN.out.trans h.2)) (fun h => by rw [h.1, ByteArray.toList_eq] at h1; exact absurd h1 (by decide))))
              go_wp2_with fail
              all_goals
                refine bodyPost_ret (results_row2 (p := 4) (a := 5) rfl rfl (load_book (book_put HYR.out HRR.out rfl).2.1)) rfl ⟨RefRes.bad (q := 2) (book_put HYR.out HRR.out rfl).1 HP.out HTX.out HM.out, HBR.out.trans ((book_put HYR.out HRR.out rfl).2.2.2.2 _ (by omega))⟩
          · by_cases h2 : x.toList = [100]
            · by_cases h3 : mm = 0
              · subst h3
                have hnil : ns = [] := List.length_eq_zero_iff.1 HMN.out.symm
                subst hnil
                have HP : Hid (parse s.data.toList = .d) := Lib.hid (HPR.out.trans (cmdOf_d (str_eq (y := ⟨#[100]⟩) (by rw [← ByteArray.toList_eq]; exact h2)) rfl))
                have HRD : Hid (Calls Tryz.prog 30 #[.agg #[.slice a1 n1 m1, .slice a2 n2 m2, .slice a3 n3 m3, .string tx, .int .i64 (m : Nat)]] wr fun e w' => RefRes b.done #[.int .i64 (b.doneN : Nat), .int .i64 (b.doneE : Nat)] e w' ∧ Below wr.heap.size wr w') := Lib.hid (by
                  have h := refdo_walk wr _ _ _ b HRR.out HOK.out
                  unfold refV at h
                  rw [HTX.out, HM.out]
                  exact h)
                clear hq1 hq3
                go_wp2_with fail
                refine HRD.out.mono ?_
                rintro e6 w6 ⟨⟨u1, u2, u3, he6, hr6⟩, hb6⟩
                obtain ⟨a7, n7, m7, rfl, -⟩ := hr6.r1.sl
                obtain ⟨a8, n8, m8, rfl, -⟩ := hr6.r2.sl
                obtain ⟨a9, n9, m9, rfl, -⟩ := hr6.r3.sl
                obtain ⟨tx6, htx6⟩ : ∃ tx6 : ByteArray, tx6 = ⟨b.done.text.toArray⟩ := ⟨_, rfl⟩
                have he6' : e6 = .returned (.tuple #[.agg #[.slice a7 n7 m7, .slice a8 n8 m8, .slice a9 n9 m9, .string tx6, .int .i64 (b.done.T.length : Nat)], .int .i64 (b.doneN : Nat), .int .i64 (b.doneE : Nat)]) := by
                  rw [htx6]
                  exact he6
                subst he6'
                have hba : Below w6.heap.size w6 (w6.alloc (.cells #[.slice a7 n7 m7, .slice a8 n8 m8, .slice a9 n9 m9, .string tx6, .int .i64 (b.done.T.length : Nat)] 44)) := (Below.refl _ _).alloc (Nat.le_refl _) _
                have hb8 := hb6.trans (hba.mono hb6.size)
                have HR6 := Lib.hid (hr6.below hba)
                have HTX6 := Lib.hid htx6
                have HB6 := Lib.hid (HBR.out.trans (hb8.mono HBR.out.size))
                have HY6 := Lib.hid ((hb8.block _ (Array.getElem?_eq_some_iff.1 HYR.out).1).trans HYR.out)
                obtain ⟨⟨e0, e1, e2, e3, e4⟩, ⟨z0, z1, z2, z3, z4⟩⟩ := cells5 HY6.out
                clear hb6 hr6 he6 htx6 hba hb8 x0 x1 x2 x3 x4 y0 y1 y2 y3 y4 f0 f1 f2 f3 f4 HV4 HOWN
                go_wp2_with fail
                refine bodyPost_ret (results_row2 (p := 4) (a := 5) rfl rfl (load_book (book_put HY6.out HR6.out rfl).2.1)) rfl ⟨?_, HB6.out.trans ((book_put HY6.out HR6.out rfl).2.2.2.2 _ (by omega))⟩
                rw [HP.out]
                exact RefRes.is (book_put HY6.out HR6.out rfl).1 HTX6.out rfl
              · have hq2 : ((mm : Int) == 0) = false := beq_eq_false_iff_ne.2 (by omega)
                have HP := Lib.hid (HPR.out.trans (cmdOf_bad (fun h => h1 (by rw [h.1, ByteArray.toList_eq])) (fun h => h3 (HMN.out.trans h.2))))
                go_wp2_with fail
                all_goals
                  refine bodyPost_ret (results_row2 (p := 4) (a := 5) rfl rfl (load_book (book_put HYR.out HRR.out rfl).2.1)) rfl ⟨RefRes.bad (q := 2) (book_put HYR.out HRR.out rfl).1 HP.out HTX.out HM.out, HBR.out.trans ((book_put HYR.out HRR.out rfl).2.2.2.2 _ (by omega))⟩
            · have HP := Lib.hid (HPR.out.trans (cmdOf_bad (fun h => h1 (by rw [h.1, ByteArray.toList_eq])) (fun h => h2 (by rw [h.1, ByteArray.toList_eq]))))
              go_wp2_with fail
              all_goals
                refine bodyPost_ret (results_row2 (p := 4) (a := 5) rfl rfl (load_book (book_put HYR.out HRR.out rfl).2.1)) rfl ⟨RefRes.bad (q := 2) (book_put HYR.out HRR.out rfl).1 HP.out HTX.out HM.out, HBR.out.trans ((book_put HYR.out HRR.out rfl).2.2.2.2 _ (by omega))⟩

end Go.Proofs.YtegibgflhhdddaaGreatDoor
