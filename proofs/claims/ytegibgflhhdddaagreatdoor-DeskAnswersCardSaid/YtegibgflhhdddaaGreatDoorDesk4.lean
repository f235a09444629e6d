/- The walk of a line. -/
import Derived.Test.YtegibgflhhdddaaGreatDoorDesk3
namespace Go.Proofs.YtegibgflhhdddaaGreatDoor
open Go.RowKit Go.Shelf Go.MapKept
open Go.ChangeMaps (setBlock)

/-- the second cell of a new verb is stored -/
theorem store_second (w : World) (a0 a1 : Value) (h1 : a1.oneCell' = true) :
    (store ⟨w.heap.size, 1, none⟩ a1).run Tryz.prog (w.alloc (.cells #[a0, .nilFunc] 57)) = .ok () (w.alloc (.cells #[a0, a1] 57)) := by
  rw [run_store _ _ _ _ _ h1]
  have hc : (w.alloc (.cells #[a0, .nilFunc] 57)).cell? ⟨w.heap.size, 1, none⟩ = some .nilFunc := by
    unfold World.cell?
    simp only
    rw [heap_alloc_new]
    rfl
  have hf : (w.alloc (.cells #[a0, .nilFunc] 57)).frozen? ⟨w.heap.size, 1, none⟩ = false := by
    unfold World.frozen?
    simp only
    rw [heap_alloc_new]
    rfl
  rw [hc]
  simp only [hf]
  rw [World.setCell_alloc_new]
  rfl
theorem verb_block {w0 w : World} (hb : Below w0.heap.size w0 w) (a0 a1 : Value) :
    Below w0.heap.size w0 (w.alloc (.cells #[a0, a1] 57)) ∧ Below w.heap.size w (w.alloc (.cells #[a0, a1] 57)) ∧
    (w.alloc (.cells #[a0, a1] 57)).cell? ⟨w.heap.size, 0, none⟩ = some a0 ∧ (w.alloc (.cells #[a0, a1] 57)).cell? ⟨w.heap.size, 1, none⟩ = some a1 ∧
    w.heap.size < (w.alloc (.cells #[a0, a1] 57)).heap.size := by
  refine ⟨hb.alloc hb.size _, (Below.refl _ _).alloc (Nat.le_refl _) _, ?_, ?_, by simp⟩ <;> (unfold World.cell?; simp only; rw [heap_alloc_new]; rfl)

theorem strs_tail {w w' : World} {r n : Nat} {x : ByteArray} {t : List ByteArray} (h : HasStrs w (.slice (some ⟨r, 0, none⟩) (n + 1) (n + 1)) (x :: t)) (hn : n = t.length) (hb : Below w.heap.size w w') : HasStrs w' (.slice (some ⟨r, 1, none⟩) n n) t := by
  subst hn
  obtain ⟨a', cap', e1, -, e3, e4⟩ := h.below hb
  obtain ⟨b', off', e5, e6, e7⟩ := e4 (Nat.succ_pos _)
  cases e1
  cases e5
  refine ⟨_, t.length, rfl, Nat.le_refl _, by omega, fun _ => ⟨r, 1, rfl, e6, fun j y hj => ?_⟩⟩
  have h1 := e7 (j + 1) y (by rw [List.getElem?_cons_succ]; exact hj)
  rw [Nat.zero_add, Nat.add_comm j 1] at h1
  exact h1
theorem strs_none {w : World} (a : Option Addr) : HasStrs w (.slice a 0 0) [] := ⟨a, 0, rfl, Nat.le_refl _, Nat.zero_le _, fun h => absurd h (by simp)⟩

/-- what is left when nothing is understood -/
theorem line_bad {w w' : World} {gd g : Nat} {b : Bk} {l : List UInt8} (h : DeskAt w gd g b) (hb : Below w.heap.size w w') (hq : req l = .bad) :
    Ending.returned (.string ⟨#[98, 97, 100]⟩) = .returned (.string ⟨(b.ansT (req l)).toArray⟩) ∧ DRes w w' gd g (b.ansB (req l)) := by
  rw [hq]
  exact ⟨rfl, DRes.mk' (h.later hb)⟩

set_option maxRecDepth 100000 in
set_option maxHeartbeats 8000000 in
theorem dline_walk (w : World) (B gd g : Nat) (b : Bk) (s : ByteArray) (h : DeskAt w gd g b) (hB : B ≤ g) (hd : B ≤ gd) (hE : Env B w) (hH : Hand B w) (hR : Reach b) (hs : s.size ≤ 5000) :
    Calls Tryz.prog 9 #[.pointer (some ⟨gd, 0, none⟩), .string s] w fun e w' => e = .returned (.string ⟨(b.ansT (req s.data.toList)).toArray⟩) ∧ DRes w w' gd g (b.ansB (req s.data.toList)) := by
  have H := Lib.hid h
  have HE := Lib.hid hE
  have HH := Lib.hid hH
  have HR := Lib.hid hR
  have hBw : B ≤ w.heap.size := by have := h.book.lt; omega
  have m0 := @run_makeMap Tryz.prog
  obtain ⟨W1, hW1⟩ : ∃ x, x = verbW w (verbs.take 1) := ⟨_, rfl⟩
  obtain ⟨W2, hW2⟩ : ∃ x, x = verbW w (verbs.take 2) := ⟨_, rfl⟩
  obtain ⟨W3, hW3⟩ : ∃ x, x = verbW w (verbs.take 3) := ⟨_, rfl⟩
  obtain ⟨W4, hW4⟩ : ∃ x, x = verbW w (verbs.take 4) := ⟨_, rfl⟩
  obtain ⟨W5, hW5⟩ : ∃ x, x = verbW w (verbs.take 5) := ⟨_, rfl⟩
  have m1 : (Instr.mapUpdate 58 (.map (some w.heap.size)) (.string ⟨#[119, 114, 105, 116, 101]⟩) (.agg #[.int .i64 2, .func (.func 18) #[] #[]])).run Tryz.prog (w.alloc (.map #[] 0)) = .ok () W1 := by rw [hW1]; exact verb_first w kWrite 2 18
  have m2 : (Instr.mapUpdate 58 (.map (some w.heap.size)) (.string ⟨#[100, 111]⟩) (.agg #[.int .i64 0, .func (.func 19) #[] #[]])).run Tryz.prog W1 = .ok () W2 := by rw [hW1, hW2]; exact verb_more w (verbs.take 1) kDo 0 19 (by decide)
  have m3 : (Instr.mapUpdate 58 (.map (some w.heap.size)) (.string ⟨#[114, 101, 97, 100]⟩) (.agg #[.int .i64 1, .func (.func 20) #[] #[]])).run Tryz.prog W2 = .ok () W3 := by rw [hW2, hW3]; exact verb_more w (verbs.take 2) kRead 1 20 (by decide)
  have m4 : (Instr.mapUpdate 58 (.map (some w.heap.size)) (.string ⟨#[119, 97, 105, 116, 115]⟩) (.agg #[.int .i64 0, .func (.func 21) #[] #[]])).run Tryz.prog W3 = .ok () W4 := by rw [hW3, hW4]; exact verb_more w (verbs.take 3) kWaits 0 21 (by decide)
  have m5 : (Instr.mapUpdate 58 (.map (some w.heap.size)) (.string ⟨#[99, 114, 97, 115, 104]⟩) (.agg #[.int .i64 1, .func (.func 22) #[] #[]])).run Tryz.prog W4 = .ok () W5 := by rw [hW4, hW5]; exact verb_more w (verbs.take 4) kCrash 1 22 (by decide)
  have hb5 : Below w.heap.size w W5 := by rw [hW5]; exact verbW_below w _
  have hm5 : W5.heap[w.heap.size]? = some (.map (vents verbs) 5) := by rw [hW5]; exact verbW_at w _
  have HB5 := Lib.hid hb5
  have HM5 := Lib.hid hm5
  clear hb5 hm5 hW1 hW2 hW3 hW4 hW5
  clear h hE hH hR
  go_enter Tryz.func9, Tryz.ntmps9
  go_wp2_with fail
  clear m0 m1 m2 m3 m4 m5
  refine (split_walk s W5 B (HE.out.on (HB5.out.mono hBw)) (by omega)).mono ?_
  rintro e w6 ⟨⟨r, L, rfl, hL, hLd, hLn⟩, hb6⟩
  obtain ⟨x, t, rfl⟩ : ∃ x t, L = x :: t := by
    cases L with
    | nil => exact absurd hLd.symm (cutAt_ne 32 _)
    | cons x t => exact ⟨x, t, rfl⟩
  obtain ⟨n, hn⟩ : ∃ n, n = t.length := ⟨_, rfl⟩
  rw [List.length_cons, ← hn] at hL hLn
  rw [List.length_cons, ← hn]
  have HT := Lib.hid hn
  have HLL := Lib.hid hL
  have HLD := Lib.hid hLd
  have HB6 := Lib.hid (HB5.out.trans (hb6.mono HB5.out.size))
  have HM6 := Lib.hid ((hb6.block _ (Array.getElem?_eq_some_iff.1 HM5.out).1).trans HM5.out)
  have hln : n ≤ 5000 := by omega
  have hcx : w6.cell? ⟨r, 0, none⟩ = some (.string x) := by
    obtain ⟨a', cap', e1, -, -, e4⟩ := hL
    obtain ⟨b', off', e5, -, e6⟩ := e4 (Nat.succ_pos _)
    cases e1
    cases e5
    exact e6 0 x rfl
  clear hn hL hLd hb6 hLn
  have hlook := look_verbs verbs x HM6.out
  have hst := fun (a0 a1 : Value) (h1 : a1.oneCell' = true) => store_second w6 a0 a1 h1
  have hsz : ∀ y ∈ t, y.size ≤ 10000 := fun y hy => by
    have h1 : y.data.toList ∈ cutAt 32 s.data.toList := by
      rw [← HLD.out, List.map_cons]
      exact List.mem_cons_of_mem _ (List.mem_map_of_mem hy)
    have h2 := cutAt_len h1
    have h3 : y.data.toList.length = y.size := rfl
    have h4 : s.data.toList.length = s.size := rfl
    omega
  have HSZ := Lib.hid hsz
  clear hsz
  have hcut : cutAt 32 s.data.toList = x.data.toList :: t.map (·.data.toList) := HLD.out.symm
  have HCUT := Lib.hid hcut
  clear hcut
  rcases hlook with ⟨hl, hno⟩ | ⟨⟨kk, k, f, c⟩, hmem, hl, hkk⟩
  · have hs1 := hst (.int .i64 0) .nilFunc rfl
    have HBAD : Hid (req s.data.toList = .bad) := Lib.hid (by
      cases hsm : smalls (t.map (·.data.toList)) with
      | none => exact req_none HCUT.out hsm
      | some ns => rw [req_some HCUT.out hsm]; exact reqOf_no hno)
    clear hno hst
    have HX := Lib.hid (verb_block HB6.out (.int .i64 0) .nilFunc)
    rcases Nat.eq_zero_or_pos n with h0 | h0
    · subst h0
      obtain rfl : t = [] := List.length_eq_zero_iff.1 HT.out.symm
      go_wp2_with fail
      refine (dwords_walk _ B _ 0 0 [] (strs_none _) rfl (Nat.le_trans hBw HX.out.1.size) (HE.out.on (HX.out.1.mono hBw)) HSZ.out (by omega)).mono ?_
      rintro e w8 ⟨hres, hb8⟩
      have HB8 := Lib.hid (HX.out.1.trans (hb8.mono HX.out.1.size))
      clear hb8
      obtain ⟨u, ok, rfl⟩ : ∃ u ok, e = .returned (.tuple #[u, .bool ok]) := by
        rcases hres with ⟨ns, u, -, rfl, -⟩ | ⟨-, rfl⟩
        · exact ⟨u, true, rfl⟩
        · exact ⟨_, false, rfl⟩
      clear hres
      go_wp2_with fail
      go_ret
      exact line_bad H.out HB8.out HBAD.out
    · go_wp2_with fail
      refine (dwords_walk _ B _ n n t (strs_tail HLL.out HT.out HX.out.2.1) HT.out (Nat.le_trans hBw HX.out.1.size) (HE.out.on (HX.out.1.mono hBw)) HSZ.out (by omega)).mono ?_
      rintro e w8 ⟨hres, hb8⟩
      have HB8 := Lib.hid (HX.out.1.trans (hb8.mono HX.out.1.size))
      clear hb8
      obtain ⟨u, ok, rfl⟩ : ∃ u ok, e = .returned (.tuple #[u, .bool ok]) := by
        rcases hres with ⟨ns, u, -, rfl, -⟩ | ⟨-, rfl⟩
        · exact ⟨u, true, rfl⟩
        · exact ⟨_, false, rfl⟩
      clear hres
      go_wp2_with fail
      go_ret
      exact line_bad H.out HB8.out HBAD.out
  · simp only at hkk
    subst hkk
    simp only [verbV] at hl
    have hs1 := hst (.int .i64 (k : Nat)) (.func (.func f) #[] #[]) rfl
    have HMEM := Lib.hid hmem
    have HX := Lib.hid (verb_block HB6.out (.int .i64 (k : Nat)) (.func (.func f) #[] #[]))
    clear hmem hst
    rcases Nat.eq_zero_or_pos n with h0 | h0
    · subst h0
      obtain rfl : t = [] := List.length_eq_zero_iff.1 HT.out.symm
      go_wp2_with fail
      refine (dwords_walk _ B _ 0 0 [] (strs_none _) rfl (Nat.le_trans hBw HX.out.1.size) (HE.out.on (HX.out.1.mono hBw)) HSZ.out (by omega)).mono ?_
      rintro e w8 ⟨hres, hb8⟩
      have HB8 := Lib.hid (HX.out.1.trans (hb8.mono HX.out.1.size))
      have c80 := (hb8.cell (p := ⟨w6.heap.size, 0, none⟩) HX.out.2.2.2.2).trans HX.out.2.2.1
      have c81 := (hb8.cell (p := ⟨w6.heap.size, 1, none⟩) HX.out.2.2.2.2).trans HX.out.2.2.2.1
      clear hb8 hs1 hl hcx
      rcases hres with ⟨ns, u, hsm, rfl, hown⟩ | ⟨hsm, rfl⟩
      rotate_left
      · have HBAD := Lib.hid (req_none HCUT.out hsm)
        clear hsm
        go_wp2_with fail
        go_ret
        exact line_bad H.out HB8.out HBAD.out
      obtain ⟨ua, uc, rfl⟩ := own_slice hown
      have HREQ := Lib.hid (req_some HCUT.out hsm)
      have HOWN := Lib.hid hown
      obtain ⟨m, hm⟩ : ∃ m, m = ns.length := ⟨_, rfl⟩
      rw [← hm] at HOWN ⊢
      have HMN := Lib.hid hm
      clear hsm hown hm
      by_cases hmk : m = k
      · subst hmk
        have HD8 := Lib.hid (H.out.later HB8.out)
        have HI8 : Hid (HasInts w8 (.slice ua m uc) (natsB ns)) := Lib.hid (by
          have h1 := HasInts.of_own HOWN.out
          rw [← h1.1] at h1
          exact h1.2)
        have hE8 := Lib.hid (HE.out.on (HB8.out.mono hBw))
        have hH8 := Lib.hid (HH.out.on (HB8.out.mono hBw))
        have hmem := HMEM.out
        have HW8 := Lib.hid (show B ≤ w8.heap.size from Nat.le_trans hBw HB8.out.size)
        clear HMEM HX
        simp only [verbs, List.mem_cons, Prod.mk.injEq, List.mem_nil_iff, or_false] at hmem
        rcases hmem with ⟨rfl, rfl, rfl, rfl⟩ | ⟨rfl, rfl, rfl, rfl⟩ | ⟨rfl, rfl, rfl, rfl⟩ | ⟨rfl, rfl, rfl, rfl⟩ | ⟨rfl, rfl, rfl, rfl⟩
        · obtain ⟨p, q, rfl⟩ : ∃ p q, ns = [p, q] := by
            have := HMN.out
            match ns, this with
            | [p, q], _ => exact ⟨p, q, rfl⟩
          have HRR := Lib.hid (show req s.data.toList = .write p q from HREQ.out)
          go_wp2_with fail
          refine (dwrite_walk w8 B gd g b ua uc p q HD8.out.1 HI8.out hB hd hE8.out hH8.out HR.out.good.1).mono ?_
          rintro e w9 ⟨rfl, g', hd9, hf9⟩
          have HF9 := Lib.hid (show DRes w w9 gd g (b.write p q) from ⟨g', hd9, HD8.out.2.trans hf9⟩)
          clear hd9 hf9
          go_wp2_with fail
          go_ret
          rw [HRR.out]
          exact ⟨rfl, HF9.out⟩
        · obtain rfl : ns = [] := List.length_eq_zero_iff.1 HMN.out.symm
          have HRR := Lib.hid (show req s.data.toList = .dos from HREQ.out)
          go_wp2_with fail
          refine (ddone_walk w8 B gd g b _ HD8.out.1 hB hd hE8.out hH8.out HR.out.good.1).mono ?_
          rintro e w9 ⟨rfl, g', hd9, hf9⟩
          have HF9 := Lib.hid (show DRes w w9 gd g b.done from ⟨g', hd9, HD8.out.2.trans hf9⟩)
          clear hd9 hf9
          go_wp2_with fail
          go_ret
          rw [HRR.out]
          exact ⟨rfl, HF9.out⟩
        · obtain ⟨p, rfl⟩ : ∃ p, ns = [p] := by
            have := HMN.out
            match ns, this with
            | [p], _ => exact ⟨p, rfl⟩
          have HRR := Lib.hid (show req s.data.toList = .read p from HREQ.out)
          go_wp2_with fail
          refine (dread_walk w8 B gd g b ua uc p HD8.out.1 HI8.out hB hE8.out hH8.out HW8.out HR.out.good.1).mono ?_
          rintro e w9 ⟨rfl, g', hd9, hf9⟩
          have HF9 := Lib.hid (show DRes w w9 gd g b from ⟨g', hd9, HD8.out.2.trans hf9⟩)
          clear hd9 hf9
          go_wp2_with fail
          go_ret
          rw [HRR.out]
          exact ⟨rfl, HF9.out⟩
        · obtain rfl : ns = [] := List.length_eq_zero_iff.1 HMN.out.symm
          have HRR := Lib.hid (show req s.data.toList = .waits from HREQ.out)
          go_wp2_with fail
          refine (dwaits_walk w8 B gd g b _ HD8.out.1 hB hE8.out HR.out.good.1).mono ?_
          rintro e w9 ⟨rfl, g', hd9, hf9⟩
          have HF9 := Lib.hid (show DRes w w9 gd g b from ⟨g', hd9, HD8.out.2.trans hf9⟩)
          clear hd9 hf9
          go_wp2_with fail
          go_ret
          rw [HRR.out]
          exact ⟨rfl, HF9.out⟩
        · obtain ⟨p, rfl⟩ : ∃ p, ns = [p] := by
            have := HMN.out
            match ns, this with
            | [p], _ => exact ⟨p, rfl⟩
          have HRR := Lib.hid (show req s.data.toList = .crash p from HREQ.out)
          obtain ⟨y, yc, hy, hyo⟩ := own_some HOWN.out (by decide)
          have HFAR := Lib.hid (own_int_far HD8.out.1.book hyo)
          cases hy
          clear hyo
          go_wp2_with fail
          refine (dcrash_walk w8 B gd g b (some ⟨y, 0, none⟩) uc p HD8.out.1 HI8.out (fun z hz => by cases hz; exact HFAR.out) hB hd hE8.out HR.out).mono ?_
          rintro e w9 ⟨rfl, g', hd9, hf9⟩
          have HF9 := Lib.hid (show DRes w w9 gd g (b.ansB (.crash p)) from ⟨g', hd9, HD8.out.2.trans hf9⟩)
          clear hd9 hf9
          go_wp2_with fail
          go_ret
          rw [HRR.out]
          exact ⟨rfl, HF9.out⟩
      · have q1 : ((m : Int) != (k : Nat)) = true := bne_iff_ne.2 (by omega)
        have HBAD : Hid (req s.data.toList = .bad) := Lib.hid (by rw [HREQ.out]; exact reqOf_other HMEM.out (by rw [← HMN.out]; exact hmk))
        clear hmk
        go_wp2_with fail
        go_ret
        exact line_bad H.out HB8.out HBAD.out
    · go_wp2_with fail
      refine (dwords_walk _ B _ n n t (strs_tail HLL.out HT.out HX.out.2.1) HT.out (Nat.le_trans hBw HX.out.1.size) (HE.out.on (HX.out.1.mono hBw)) HSZ.out (by omega)).mono ?_
      rintro e w8 ⟨hres, hb8⟩
      have HB8 := Lib.hid (HX.out.1.trans (hb8.mono HX.out.1.size))
      have c80 := (hb8.cell (p := ⟨w6.heap.size, 0, none⟩) HX.out.2.2.2.2).trans HX.out.2.2.1
      have c81 := (hb8.cell (p := ⟨w6.heap.size, 1, none⟩) HX.out.2.2.2.2).trans HX.out.2.2.2.1
      clear hb8 hs1 hl hcx
      rcases hres with ⟨ns, u, hsm, rfl, hown⟩ | ⟨hsm, rfl⟩
      rotate_left
      · have HBAD := Lib.hid (req_none HCUT.out hsm)
        clear hsm
        go_wp2_with fail
        go_ret
        exact line_bad H.out HB8.out HBAD.out
      obtain ⟨ua, uc, rfl⟩ := own_slice hown
      have HREQ := Lib.hid (req_some HCUT.out hsm)
      have HOWN := Lib.hid hown
      obtain ⟨m, hm⟩ : ∃ m, m = ns.length := ⟨_, rfl⟩
      rw [← hm] at HOWN ⊢
      have HMN := Lib.hid hm
      clear hsm hown hm
      by_cases hmk : m = k
      · subst hmk
        have HD8 := Lib.hid (H.out.later HB8.out)
        have HI8 : Hid (HasInts w8 (.slice ua m uc) (natsB ns)) := Lib.hid (by
          have h1 := HasInts.of_own HOWN.out
          rw [← h1.1] at h1
          exact h1.2)
        have hE8 := Lib.hid (HE.out.on (HB8.out.mono hBw))
        have hH8 := Lib.hid (HH.out.on (HB8.out.mono hBw))
        have hmem := HMEM.out
        have HW8 := Lib.hid (show B ≤ w8.heap.size from Nat.le_trans hBw HB8.out.size)
        clear HMEM HX
        simp only [verbs, List.mem_cons, Prod.mk.injEq, List.mem_nil_iff, or_false] at hmem
        rcases hmem with ⟨rfl, rfl, rfl, rfl⟩ | ⟨rfl, rfl, rfl, rfl⟩ | ⟨rfl, rfl, rfl, rfl⟩ | ⟨rfl, rfl, rfl, rfl⟩ | ⟨rfl, rfl, rfl, rfl⟩
        · obtain ⟨p, q, rfl⟩ : ∃ p q, ns = [p, q] := by
            have := HMN.out
            match ns, this with
            | [p, q], _ => exact ⟨p, q, rfl⟩
          have HRR := Lib.hid (show req s.data.toList = .write p q from HREQ.out)
          go_wp2_with fail
          refine (dwrite_walk w8 B gd g b ua uc p q HD8.out.1 HI8.out hB hd hE8.out hH8.out HR.out.good.1).mono ?_
          rintro e w9 ⟨rfl, g', hd9, hf9⟩
          have HF9 := Lib.hid (show DRes w w9 gd g (b.write p q) from ⟨g', hd9, HD8.out.2.trans hf9⟩)
          clear hd9 hf9
          go_wp2_with fail
          go_ret
          rw [HRR.out]
          exact ⟨rfl, HF9.out⟩
        · obtain rfl : ns = [] := List.length_eq_zero_iff.1 HMN.out.symm
          have HRR := Lib.hid (show req s.data.toList = .dos from HREQ.out)
          go_wp2_with fail
          refine (ddone_walk w8 B gd g b _ HD8.out.1 hB hd hE8.out hH8.out HR.out.good.1).mono ?_
          rintro e w9 ⟨rfl, g', hd9, hf9⟩
          have HF9 := Lib.hid (show DRes w w9 gd g b.done from ⟨g', hd9, HD8.out.2.trans hf9⟩)
          clear hd9 hf9
          go_wp2_with fail
          go_ret
          rw [HRR.out]
          exact ⟨rfl, HF9.out⟩
        · obtain ⟨p, rfl⟩ : ∃ p, ns = [p] := by
            have := HMN.out
            match ns, this with
            | [p], _ => exact ⟨p, rfl⟩
          have HRR := Lib.hid (show req s.data.toList = .read p from HREQ.out)
          go_wp2_with fail
          refine (dread_walk w8 B gd g b ua uc p HD8.out.1 HI8.out hB hE8.out hH8.out HW8.out HR.out.good.1).mono ?_
          rintro e w9 ⟨rfl, g', hd9, hf9⟩
          have HF9 := Lib.hid (show DRes w w9 gd g b from ⟨g', hd9, HD8.out.2.trans hf9⟩)
          clear hd9 hf9
          go_wp2_with fail
          go_ret
          rw [HRR.out]
          exact ⟨rfl, HF9.out⟩
        · obtain rfl : ns = [] := List.length_eq_zero_iff.1 HMN.out.symm
          have HRR := Lib.hid (show req s.data.toList = .waits from HREQ.out)
          go_wp2_with fail
          refine (dwaits_walk w8 B gd g b _ HD8.out.1 hB hE8.out HR.out.good.1).mono ?_
          rintro e w9 ⟨rfl, g', hd9, hf9⟩
          have HF9 := Lib.hid (show DRes w w9 gd g b from ⟨g', hd9, HD8.out.2.trans hf9⟩)
          clear hd9 hf9
          go_wp2_with fail
          go_ret
          rw [HRR.out]
          exact ⟨rfl, HF9.out⟩
        · obtain ⟨p, rfl⟩ : ∃ p, ns = [p] := by
            have := HMN.out
            match ns, this with
            | [p], _ => exact ⟨p, rfl⟩
          have HRR := Lib.hid (show req s.data.toList = .crash p from HREQ.out)
          obtain ⟨y, yc, hy, hyo⟩ := own_some HOWN.out (by decide)
          have HFAR := Lib.hid (own_int_far HD8.out.1.book hyo)
          cases hy
          clear hyo
          go_wp2_with fail
          refine (dcrash_walk w8 B gd g b (some ⟨y, 0, none⟩) uc p HD8.out.1 HI8.out (fun z hz => by cases hz; exact HFAR.out) hB hd hE8.out HR.out).mono ?_
          rintro e w9 ⟨rfl, g', hd9, hf9⟩
          have HF9 := Lib.hid (show DRes w w9 gd g (b.ansB (.crash p)) from ⟨g', hd9, HD8.out.2.trans hf9⟩)
          clear hd9 hf9
          go_wp2_with fail
          go_ret
          rw [HRR.out]
          exact ⟨rfl, HF9.out⟩
      · have q1 : ((m : Int) != (k : Nat)) = true := bne_iff_ne.2 (by omega)
        have HBAD : Hid (req s.data.toList = .bad) := Lib.hid (by rw [HREQ.out]; exact reqOf_other HMEM.out (by rw [← HMN.out]; exact hmk))
        clear hmk
        go_wp2_with fail
        go_ret
        exact line_bad H.out HB8.out HBAD.out

end Go.Proofs.YtegibgflhhdddaaGreatDoor
