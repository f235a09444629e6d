/- The reference's session. -/
import Derived.Test.YtegibgflhhdddaaGreatDoorRefAns
import Derived.Test.YtegibgflhhdddaaGreatDoorRun2
namespace Go.Proofs.YtegibgflhhdddaaGreatDoor
open Go.RowKit

theorem desk_nil : deskLines [] = [] := by
  obtain ⟨h1, h2⟩ := wholeLines_skip (t := []) (by simp)
  unfold deskLines
  rw [h1, h2]
  rfl
theorem desk_at {a b : List UInt8} (h : (10 : UInt8) ∉ a) : deskLines (a ++ 10 :: b) = a :: deskLines b := by
  obtain ⟨h1, h2⟩ := wholeLines_at (b := b) h
  unfold deskLines
  rw [h1, h2]
  rfl
theorem desk_last {a : List UInt8} (h : (10 : UInt8) ∉ a) (hne : a ≠ []) : deskLines a = [a] := by
  obtain ⟨h1, h2⟩ := wholeLines_skip h
  unfold deskLines
  rw [h1, h2, if_neg hne]
  rfl

/-- one line of the text: from f on to i, where the feed or the end is -/
theorem desk_step {s : List UInt8} {f i : Nat} (hf : f < s.length) (hfi : f ≤ i) (hi : i ≤ s.length) (hno : (10 : UInt8) ∉ (s.take i).drop f) (hend : ∀ h : i < s.length, s[i] = 10) :
    deskLines (s.drop f) = (s.take i).drop f :: deskLines (s.drop (i + 1)) := by
  have hcat : s.drop f = (s.take i).drop f ++ s.drop i := by
    conv => lhs; rw [← List.take_append_drop i s]
    rw [List.drop_append_of_le_length (by rw [List.length_take]; omega)]
  by_cases hlt : i < s.length
  · rw [hcat, List.drop_eq_getElem_cons hlt, hend hlt]
    exact desk_at hno
  · obtain rfl : i = s.length := by omega
    rw [List.take_length] at hno ⊢
    have h0 : s.drop (s.length + 1) = [] := List.drop_of_length_le (by omega)
    rw [h0, desk_nil]
    refine desk_last hno (fun e => ?_)
    have h1 := congrArg List.length e
    rw [List.length_drop, List.length_nil] at h1
    omega

/-- where the walk of Session stands -/
structure SB (w wr : World) (gb : Nat) (b : Bk) : Prop where
  bx : ∃ v1 v2 v3, wr.heap[gb]? = some (bookCells v1 v2 v3 b) ∧ RefIs wr v1 v2 v3 b
  lo : w.heap.size ≤ gb
  bel : Below w.heap.size w wr
theorem SB.below {w wr wx : World} {gb : Nat} {b : Bk} (h : SB w wr gb b) (hb : Below wr.heap.size wr wx) : SB w wx gb b := by
  obtain ⟨v1, v2, v3, h1, h2⟩ := h.bx
  exact ⟨⟨v1, v2, v3, (hb.block _ (lt_of_heap h1)).trans h1, h2.below hb⟩, h.lo, h.bel.trans (hb.mono h.bel.size)⟩
theorem SB.set {w wr wx : World} {gb : Nat} {b b' : Bk} {u1 u2 u3 : Value} (h : SB w wr gb b) (hr : RefIs wr u1 u2 u3 b') (hw : wx = ((((wr.setCell ⟨gb, 0, none⟩ u1).setCell ⟨gb, 1, none⟩ u2).setCell ⟨gb, 2, none⟩ u3).setCell ⟨gb, 3, none⟩ (.string ⟨b'.text.toArray⟩)).setCell ⟨gb, 4, none⟩ (.int .i64 (b'.T.length : Nat))) : SB w wx gb b' := by
  obtain ⟨v1, v2, v3, h1, h2⟩ := h.bx
  obtain ⟨k1, k2, k3, k4, k5⟩ := book_far h1 hr hw
  exact ⟨⟨u1, u2, u3, k5, k1⟩, h.lo, h.bel.trans (k4 _ h.lo)⟩

theorem sess_bytes (out a : ByteArray) (T t : List UInt8) (h1 : out = ⟨T.toArray⟩) (h2 : a = ⟨t.toArray⟩) : out ++ a ++ ⟨#[10]⟩ = ⟨(T ++ (t ++ [10])).toArray⟩ := by
  subst h1 h2
  refine ByteArray.ext (Array.toList_inj.1 ?_)
  simp

set_option maxRecDepth 100000 in
set_option maxHeartbeats 8000000 in
theorem refsess_walk (s : ByteArray) (w : World) (hs : s.size ≤ 140737488351232) :
    Calls Tryz.prog 5 #[.string s] w fun e w' => e = .returned (.string ⟨(runT s.data.toList).toArray⟩) ∧ Below w.heap.size w w' := by
  have hl : s.data.toList.length = s.size := rfl
  have HL := Lib.hid hl
  clear hl
  go_enter Tryz.func5, Tryz.ntmps5
  by_cases hlong : 3000 < s.size
  · have q1 : decide ((3000 : Int) < (s.size : Int)) = true := decide_eq_true (by omega)
    have hr : runT s.data.toList = [116, 111, 111, 32, 108, 111, 110, 103, 10] := by unfold runT; rw [HL.out, if_pos hlong]; rfl
    have HR := Lib.hid hr
    clear hr
    go_wp2_with fail
    go_ret
    exact ⟨by rw [HR.out]; rfl, Below.refl _ _⟩
  have q1 : decide ((3000 : Int) < (s.size : Int)) = false := decide_eq_false (by omega)
  have hs3 : s.size ≤ 3000 := by omega
  go_wp2_with fail
  refine (newbook_walk w).mono ?_
  rintro e w2 ⟨⟨v1, v2, v3, rfl, hr2⟩, hb2⟩
  obtain ⟨gb, hgb⟩ : ∃ g, g = w2.heap.size := ⟨_, rfl⟩
  obtain ⟨W3, hW3⟩ : ∃ W3, W3 = w2.alloc (.cells #[v1, v2, v3, .string ⟨Bk.new.text.toArray⟩, .int .i64 (Bk.new.T.length : Nat)] 44) := ⟨_, rfl⟩
  have hb3 : Below w2.heap.size w2 W3 := by rw [hW3]; exact (Below.refl _ _).alloc (Nat.le_refl _) _
  have HSB : Hid (SB w W3 gb Bk.new) := Lib.hid (by
    refine ⟨⟨v1, v2, v3, ?_, hr2.below hb3⟩, ?_, hb2.trans (hb3.mono hb2.size)⟩
    · rw [hW3, hgb]
      exact heap_alloc_new w2 _
    · rw [hgb]
      exact hb2.size)
  have HGB := Lib.hid hgb
  have HW3 := Lib.hid hW3
  clear hb3 hW3 hgb
  obtain ⟨a1, n1, m1, rfl, -⟩ := hr2.r1.sl
  obtain ⟨a2, n2, m2, rfl, -⟩ := hr2.r2.sl
  obtain ⟨a3, n3, m3, rfl, -⟩ := hr2.r3.sl
  clear hr2 hb2
  unfold refV
  obtain ⟨tx, htx⟩ := named Bk.new.text
  obtain ⟨mm, hmm⟩ : ∃ m, m = Bk.new.T.length := ⟨_, rfl⟩
  rw [← htx, ← hmm] at HW3 ⊢
  clear htx hmm
  go_wp2_with fail
  rw [← HW3.out, ← HGB.out]
  clear HW3 HGB q1 hlong
  go_loopw [4, 5] (fun ox fx wr => ∃ (f : Nat) (L : List (List UInt8)) (out : ByteArray), f ≤ s.size + 1 ∧ fx = .int .i64 (f : Nat) ∧ ox = .string out ∧ out = ⟨(sessT Bk.new L).toArray⟩ ∧ L.length ≤ f ∧ deskLines s.data.toList = L ++ deskLines (s.data.toList.drop f) ∧ SB w wr gb (sessB Bk.new L)) (fun _ fx _ => s.size + 1 - (intOf fx).toNat)
  case atStart => exact ⟨0, [], ⟨#[]⟩, Nat.zero_le _, rfl, rfl, rfl, Nat.le_refl _, rfl, HSB.out⟩
  case round =>
    obtain ⟨f, L, out, hf, rfl, rfl, hout, hLf, hdl, hsb⟩ := hrel
    have hre : Reach (sessB Bk.new L) := Reach.new.sess L
    have hosz : out.size ≤ 400000 := by
      have h1 := sessT_len L Bk.new Reach.new
      have h2 : out.size = (sessT Bk.new L).length := by rw [hout]; exact List.size_toArray
      have h3 := Nat.mul_le_mul_right 101 (show L.length ≤ 3001 by omega)
      omega
    obtain ⟨b, hb⟩ : ∃ b, b = sessB Bk.new L := ⟨_, rfl⟩
    rw [← hb] at hsb hre
    have HB := Lib.hid hb
    have HSB := Lib.hid hsb
    have HRE := Lib.hid hre
    have HOUT := Lib.hid hout
    have HDL := Lib.hid hdl
    clear hb hsb hre hout hdl
    by_cases hlt : f < s.size
    · have p1 : decide (f < s.size) = true := decide_eq_true hlt
      go_wp2_with fail
      clear p1
      go_loop [6] (fun ix => ∃ i : Nat, f ≤ i ∧ i ≤ s.size ∧ ix = .int .i64 (i : Nat) ∧ (10 : UInt8) ∉ (s.data.toList.take i).drop f) (fun ix => s.size - (intOf ix).toNat)
      case atStart => exact ⟨f, Nat.le_refl _, by omega, rfl, by rw [List.drop_of_length_le (by rw [List.length_take]; omega)]; simp⟩
      case round =>
        obtain ⟨i, hfi, hi, rfl, hno⟩ := hrel
        have HNO := Lib.hid hno
        clear hno
        by_cases hgo : ∃ h : i < s.size, s[i] ≠ 10
        · obtain ⟨hil, hne⟩ := hgo
          have p2 : decide (i < s.size) = true := decide_eq_true hil
          have p3 : (((s[i]).toNat : Int) != 10) = true := bne_iff_ne.2 (fun e => hne (UInt8.toNat_inj.1 (by have h : (10 : UInt8).toNat = 10 := rfl; rw [h]; omega)))
          have HNX : Hid ((10 : UInt8) ∉ (s.data.toList.take (i + 1)).drop f) := Lib.hid (by
            have hil' : i < s.data.toList.length := by rw [HL.out]; exact hil
            rw [List.take_succ_eq_append_getElem hil', List.drop_append_of_le_length (by rw [List.length_take]; omega)]
            intro hm
            rcases List.mem_append.1 hm with hm | hm
            · exact HNO.out hm
            · have h1 := List.mem_singleton.1 hm
              exact hne h1.symm)
          clear hne
          go_wp2_with fail
          go_round
          case rel => exact ⟨i + 1, by omega, by omega, by go_num, HNX.out⟩
          case measure => simp [intOf]; omega
        · have hend : ∀ h : i < s.size, s[i] = 10 := fun h => Classical.byContradiction fun hne => hgo ⟨h, hne⟩
          have HST : Hid (deskLines (s.data.toList.drop f) = (s.data.toList.take i).drop f :: deskLines (s.data.toList.drop (i + 1))) := Lib.hid (desk_step (by rw [HL.out]; exact hlt) hfi (by rw [HL.out]; exact hi) HNO.out (fun h => hend h))
          have hex : (s.extract f i).data.toList = (s.data.toList.take i).drop f := by
            rw [ByteArray.data_extract, Array.toList_extract]
            simp [List.drop_take]
          have HEX := Lib.hid hex
          have hexs : (s.extract f i).size ≤ 100000 := by
            have h1 : (s.extract f i).size = (s.extract f i).data.toList.length := rfl
            rw [h1, hex, List.length_drop, List.length_take]
            omega
          have s1 : (i : Int) ≤ (s.size : Int) := by omega
          have s2 : (f : Int) ≤ (i : Int) := by omega
          obtain ⟨v1, v2, v3, hbx, hrx⟩ := HSB.out.bx
          have HRX := Lib.hid hrx
          obtain ⟨a4, n4, m4, rfl, -⟩ := hrx.r1.sl
          obtain ⟨a5, n5, m5, rfl, -⟩ := hrx.r2.sl
          obtain ⟨a6, n6, m6, rfl, -⟩ := hrx.r3.sl
          obtain ⟨⟨i0, i1, i2, i3, i4⟩, -⟩ := cells5 hbx
          clear hbx hrx hex hgo
          have hp : (∃ h : i < s.size, (((s[i]).toNat : Int) != 10) = false) ∨ i = s.size := by
            by_cases h : i < s.size
            · exact .inl ⟨h, by rw [hend h]; rfl⟩
            · exact .inr (by omega)
          clear hend
          obtain ⟨q, hq⟩ : ∃ q, q = req (s.extract f i).data.toList := ⟨_, rfl⟩
          have HQ := Lib.hid hq
          clear hq
          rcases hp with ⟨hil, p3⟩ | rfl
          · have p2 : decide (i < s.size) = true := decide_eq_true hil
            go_upto_region 10 with fail
            go_cut [7, 8] (fun c7 c8 wx => ∃ (gc : Nat) (u1 u2 u3 : Value) (tx : ByteArray), c7 = .pointer (some ⟨gc, 0, none⟩) ∧ c8 = .string tx ∧ tx = ⟨(b.ansT q).toArray⟩ ∧ gb < gc ∧ wx.heap[gc]? = some (bookCells u1 u2 u3 (b.ansB q)) ∧ RefIs wx u1 u2 u3 (b.ansB q) ∧ Below wr.heap.size wr wx)
            case first =>
              have hba : Below wr.heap.size wr (wr.alloc (.cells #[.slice none 0 0, .slice none 0 0, .slice none 0 0, .string ⟨#[]⟩, .int .i64 0] 44)).drew := ((Below.refl _ _).alloc (Nat.le_refl _) _).drew
              have hca : (wr.alloc (.cells #[.slice none 0 0, .slice none 0 0, .slice none 0 0, .string ⟨#[]⟩, .int .i64 0] 44)).drew.heap[wr.heap.size]? = some (.cells #[.slice none 0 0, .slice none 0 0, .slice none 0 0, .string ⟨#[]⟩, .int .i64 0] 44 (0, 0)) := heap_alloc_new wr _
              obtain ⟨_, _, _, hbxA, -⟩ := HSB.out.bx
              have hblt := lt_of_heap hbxA
              have iA0 := (hba.cell (p := ⟨gb, 0, none⟩) hblt).trans i0
              have iA1 := (hba.cell (p := ⟨gb, 1, none⟩) hblt).trans i1
              have iA2 := (hba.cell (p := ⟨gb, 2, none⟩) hblt).trans i2
              have iA3 := (hba.cell (p := ⟨gb, 3, none⟩) hblt).trans i3
              have iA4 := (hba.cell (p := ⟨gb, 4, none⟩) hblt).trans i4
              have HBLT := Lib.hid hblt
              clear hbxA hblt
              have HBA := Lib.hid hba
              have HCA := Lib.hid hca
              clear hba hca
              go_region_law (go_simp; go_at_call 14; first | (refine (refans_walk _ _ _ _ b (s.extract f i) (HRX.out.below HBA.out) HRE.out hexs).mono ?_; rw [← HQ.out]; rintro e6 w6 ⟨⟨u1, u2, u3, he6, hr6⟩, hb6⟩; obtain ⟨a7, n7, m7, rfl, -⟩ := hr6.r1.sl; obtain ⟨a8, n8, m8, rfl, -⟩ := hr6.r2.sl; obtain ⟨a9, n9, m9, rfl, -⟩ := hr6.r3.sl; obtain ⟨tx6, htx6⟩ : ∃ tx6 : ByteArray, tx6 = ⟨(b.ansB q).text.toArray⟩ := ⟨_, rfl⟩; obtain ⟨ta6, hta6⟩ : ∃ ta6 : ByteArray, ta6 = ⟨(b.ansT q).toArray⟩ := ⟨_, rfl⟩; have he6' : e6 = .returned (.tuple #[.agg #[.slice a7 n7 m7, .slice a8 n8 m8, .slice a9 n9 m9, .string tx6, .int .i64 ((b.ansB q).T.length : Nat)], .string ta6]) := (by rw [htx6, hta6]; exact he6); subst he6'; have HTX6 := Lib.hid htx6; have HTA6 := Lib.hid hta6; have HR6 := Lib.hid hr6; have HB6 := Lib.hid (HBA.out.trans (hb6.mono HBA.out.size)); have HC6 := Lib.hid ((hb6.block _ (lt_of_heap HCA.out)).trans HCA.out); obtain ⟨⟨e0, e1, e2, e3, e4⟩, ⟨z0, z1, z2, z3, z4⟩⟩ := cells5 HC6.out; clear hb6 hr6 he6 htx6 hta6) | (refine (refans_walk _ _ _ _ b (s.extract f i) (HRX.out.below (Below.refl wr.heap.size wr).drew) HRE.out hexs).mono ?_; rw [← HQ.out]; rintro e6 w6 ⟨⟨u1, u2, u3, he6, hr6⟩, hb6⟩; obtain ⟨a7, n7, m7, rfl, -⟩ := hr6.r1.sl; obtain ⟨a8, n8, m8, rfl, -⟩ := hr6.r2.sl; obtain ⟨a9, n9, m9, rfl, -⟩ := hr6.r3.sl; obtain ⟨tx6, htx6⟩ : ∃ tx6 : ByteArray, tx6 = ⟨(b.ansB q).text.toArray⟩ := ⟨_, rfl⟩; obtain ⟨ta6, hta6⟩ : ∃ ta6 : ByteArray, ta6 = ⟨(b.ansT q).toArray⟩ := ⟨_, rfl⟩; have he6' : e6 = .returned (.tuple #[.agg #[.slice a7 n7 m7, .slice a8 n8 m8, .slice a9 n9 m9, .string tx6, .int .i64 ((b.ansB q).T.length : Nat)], .string ta6]) := (by rw [htx6, hta6]; exact he6); subst he6'; have HTX6 := Lib.hid htx6; have HTA6 := Lib.hid hta6; have HR6 := Lib.hid hr6; have HB6 := Lib.hid ((Below.refl wr.heap.size wr).drew.trans hb6); clear hb6 hr6 he6 htx6 hta6))
              all_goals
                go_wp2_with fail
                go_meet
                have hblt := HBLT.out
                have h2 := HB6.out.size
                first
                  | (obtain ⟨k1, k2, -, -, k3⟩ := book_put HC6.out HR6.out (x4 := .string tx6) (x5 := .int .i64 ((b.ansB q).T.length : Nat)) rfl
                     refine ⟨_, _, _, _, _, rfl, rfl, HTA6.out, by omega, ?_, k1, HB6.out.trans (k3 _ (Nat.le_refl _))⟩
                     rw [k2, HTX6.out]
                     rfl)
                  | (have hba : ∀ o, Below w6.heap.size w6 (w6.alloc o) := fun o => (Below.refl _ _).alloc (Nat.le_refl _) _
                     refine ⟨_, _, _, _, _, rfl, rfl, HTA6.out, by omega, ?_, HR6.out.below (hba _), HB6.out.trans ((hba _).mono h2)⟩
                     rw [HTX6.out]
                     exact heap_alloc_new w6 _)
            case rest =>
              obtain ⟨gc, u1, u2, u3, ta, rfl, rfl, hta, hgc, hcc, hrc, hbw⟩ := hcut
              obtain ⟨w6, rfl⟩ : ∃ w6, w6 = wc := ⟨_, rfl⟩
              have hatl : ta.size ≤ 100 := by
                have h1 : ta.size = (b.ansT q).length := by rw [hta]; exact List.size_toArray
                have := ansT_len b HRE.out.good.1 q
                omega
              obtain ⟨c, hc⟩ : ∃ c, c = b.ansB q := ⟨_, rfl⟩
              rw [← hc] at hcc hrc
              have HC := Lib.hid hc
              have HTA := Lib.hid hta
              have HSB6 := Lib.hid (HSB.out.below hbw)
              have HRC := Lib.hid hrc
              obtain ⟨a7, n7, m7, rfl, -⟩ := hrc.r1.sl
              obtain ⟨a8, n8, m8, rfl, -⟩ := hrc.r2.sl
              obtain ⟨a9, n9, m9, rfl, -⟩ := hrc.r3.sl
              obtain ⟨⟨e0, e1, e2, e3, e4⟩, -⟩ := cells5 hcc
              obtain ⟨_, _, _, hbx6, -⟩ := HSB6.out.bx
              obtain ⟨⟨y0, y1, y2, y3, y4⟩, ⟨f0, f1, f2, f3, f4⟩⟩ := cells5 hbx6
              have z1 : ¬ 9223372036854775807 < out.size + ta.size := by omega
              have z2 : ¬ 9223372036854775807 < out.size + ta.size + 1 := by omega
              have s5 : IntKind.i64.wrap ((i : Int) + 1) = ((i + 1 : Nat) : Int) := by rw [IntWalk.i64_in _ (by omega)]; omega
              have HFIN1 : Hid (out ++ ta ++ ⟨#[10]⟩ = ⟨(sessT Bk.new (L ++ [(s.extract f i).data.toList])).toArray⟩) := Lib.hid (by
                rw [sess_bytes out ta _ _ HOUT.out HTA.out, sessT_snoc, ← HB.out, HQ.out])
              have HFIN2 : Hid (c = sessB Bk.new (L ++ [(s.extract f i).data.toList])) := Lib.hid (by rw [HC.out, sessB_append, ← HB.out, HQ.out]; rfl)
              have HFIN3 : Hid (deskLines s.data.toList = (L ++ [(s.extract f i).data.toList]) ++ deskLines (s.data.toList.drop (i + 1))) := Lib.hid (by rw [HDL.out, HST.out, HEX.out, List.append_assoc]; rfl)
              clear hta hbw hrc i0 i1 i2 i3 i4 hcc hbx6 hc
              go_wp2_with fail
              go_roundw
              case rel => exact ⟨i + 1, L ++ [(s.extract f i).data.toList], _, by omega, by first | rfl | (congr 1; omega) | (congr 1; rw [IntWalk.i64_in _ (by omega)]; omega) | go_num, rfl, HFIN1.out, by rw [List.length_append, List.length_singleton]; omega, HFIN3.out, by rw [← HFIN2.out]; exact HSB6.out.set HRC.out rfl⟩
              case measure => simp [intOf]; omega
          · have p2 : decide (s.size < s.size) = false := decide_eq_false (Nat.lt_irrefl _)
            go_upto_region 10 with fail
            go_cut [7, 8] (fun c7 c8 wx => ∃ (gc : Nat) (u1 u2 u3 : Value) (tx : ByteArray), c7 = .pointer (some ⟨gc, 0, none⟩) ∧ c8 = .string tx ∧ tx = ⟨(b.ansT q).toArray⟩ ∧ gb < gc ∧ wx.heap[gc]? = some (bookCells u1 u2 u3 (b.ansB q)) ∧ RefIs wx u1 u2 u3 (b.ansB q) ∧ Below wr.heap.size wr wx)
            case first =>
              have hba : Below wr.heap.size wr (wr.alloc (.cells #[.slice none 0 0, .slice none 0 0, .slice none 0 0, .string ⟨#[]⟩, .int .i64 0] 44)).drew := ((Below.refl _ _).alloc (Nat.le_refl _) _).drew
              have hca : (wr.alloc (.cells #[.slice none 0 0, .slice none 0 0, .slice none 0 0, .string ⟨#[]⟩, .int .i64 0] 44)).drew.heap[wr.heap.size]? = some (.cells #[.slice none 0 0, .slice none 0 0, .slice none 0 0, .string ⟨#[]⟩, .int .i64 0] 44 (0, 0)) := heap_alloc_new wr _
              obtain ⟨_, _, _, hbxA, -⟩ := HSB.out.bx
              have hblt := lt_of_heap hbxA
              have iA0 := (hba.cell (p := ⟨gb, 0, none⟩) hblt).trans i0
              have iA1 := (hba.cell (p := ⟨gb, 1, none⟩) hblt).trans i1
              have iA2 := (hba.cell (p := ⟨gb, 2, none⟩) hblt).trans i2
              have iA3 := (hba.cell (p := ⟨gb, 3, none⟩) hblt).trans i3
              have iA4 := (hba.cell (p := ⟨gb, 4, none⟩) hblt).trans i4
              have HBLT := Lib.hid hblt
              clear hbxA hblt
              have HBA := Lib.hid hba
              have HCA := Lib.hid hca
              clear hba hca
              go_region_law (go_simp; go_at_call 14; first | (refine (refans_walk _ _ _ _ b (s.extract f s.size) (HRX.out.below HBA.out) HRE.out hexs).mono ?_; rw [← HQ.out]; rintro e6 w6 ⟨⟨u1, u2, u3, he6, hr6⟩, hb6⟩; obtain ⟨a7, n7, m7, rfl, -⟩ := hr6.r1.sl; obtain ⟨a8, n8, m8, rfl, -⟩ := hr6.r2.sl; obtain ⟨a9, n9, m9, rfl, -⟩ := hr6.r3.sl; obtain ⟨tx6, htx6⟩ : ∃ tx6 : ByteArray, tx6 = ⟨(b.ansB q).text.toArray⟩ := ⟨_, rfl⟩; obtain ⟨ta6, hta6⟩ : ∃ ta6 : ByteArray, ta6 = ⟨(b.ansT q).toArray⟩ := ⟨_, rfl⟩; have he6' : e6 = .returned (.tuple #[.agg #[.slice a7 n7 m7, .slice a8 n8 m8, .slice a9 n9 m9, .string tx6, .int .i64 ((b.ansB q).T.length : Nat)], .string ta6]) := (by rw [htx6, hta6]; exact he6); subst he6'; have HTX6 := Lib.hid htx6; have HTA6 := Lib.hid hta6; have HR6 := Lib.hid hr6; have HB6 := Lib.hid (HBA.out.trans (hb6.mono HBA.out.size)); have HC6 := Lib.hid ((hb6.block _ (lt_of_heap HCA.out)).trans HCA.out); obtain ⟨⟨e0, e1, e2, e3, e4⟩, ⟨z0, z1, z2, z3, z4⟩⟩ := cells5 HC6.out; clear hb6 hr6 he6 htx6 hta6) | (refine (refans_walk _ _ _ _ b (s.extract f s.size) (HRX.out.below (Below.refl wr.heap.size wr).drew) HRE.out hexs).mono ?_; rw [← HQ.out]; rintro e6 w6 ⟨⟨u1, u2, u3, he6, hr6⟩, hb6⟩; obtain ⟨a7, n7, m7, rfl, -⟩ := hr6.r1.sl; obtain ⟨a8, n8, m8, rfl, -⟩ := hr6.r2.sl; obtain ⟨a9, n9, m9, rfl, -⟩ := hr6.r3.sl; obtain ⟨tx6, htx6⟩ : ∃ tx6 : ByteArray, tx6 = ⟨(b.ansB q).text.toArray⟩ := ⟨_, rfl⟩; obtain ⟨ta6, hta6⟩ : ∃ ta6 : ByteArray, ta6 = ⟨(b.ansT q).toArray⟩ := ⟨_, rfl⟩; have he6' : e6 = .returned (.tuple #[.agg #[.slice a7 n7 m7, .slice a8 n8 m8, .slice a9 n9 m9, .string tx6, .int .i64 ((b.ansB q).T.length : Nat)], .string ta6]) := (by rw [htx6, hta6]; exact he6); subst he6'; have HTX6 := Lib.hid htx6; have HTA6 := Lib.hid hta6; have HR6 := Lib.hid hr6; have HB6 := Lib.hid ((Below.refl wr.heap.size wr).drew.trans hb6); clear hb6 hr6 he6 htx6 hta6))
              all_goals
                go_wp2_with fail
                go_meet
                have hblt := HBLT.out
                have h2 := HB6.out.size
                first
                  | (obtain ⟨k1, k2, -, -, k3⟩ := book_put HC6.out HR6.out (x4 := .string tx6) (x5 := .int .i64 ((b.ansB q).T.length : Nat)) rfl
                     refine ⟨_, _, _, _, _, rfl, rfl, HTA6.out, by omega, ?_, k1, HB6.out.trans (k3 _ (Nat.le_refl _))⟩
                     rw [k2, HTX6.out]
                     rfl)
                  | (have hba : ∀ o, Below w6.heap.size w6 (w6.alloc o) := fun o => (Below.refl _ _).alloc (Nat.le_refl _) _
                     refine ⟨_, _, _, _, _, rfl, rfl, HTA6.out, by omega, ?_, HR6.out.below (hba _), HB6.out.trans ((hba _).mono h2)⟩
                     rw [HTX6.out]
                     exact heap_alloc_new w6 _)
            case rest =>
              obtain ⟨gc, u1, u2, u3, ta, rfl, rfl, hta, hgc, hcc, hrc, hbw⟩ := hcut
              obtain ⟨w6, rfl⟩ : ∃ w6, w6 = wc := ⟨_, rfl⟩
              have hatl : ta.size ≤ 100 := by
                have h1 : ta.size = (b.ansT q).length := by rw [hta]; exact List.size_toArray
                have := ansT_len b HRE.out.good.1 q
                omega
              obtain ⟨c, hc⟩ : ∃ c, c = b.ansB q := ⟨_, rfl⟩
              rw [← hc] at hcc hrc
              have HC := Lib.hid hc
              have HTA := Lib.hid hta
              have HSB6 := Lib.hid (HSB.out.below hbw)
              have HRC := Lib.hid hrc
              obtain ⟨a7, n7, m7, rfl, -⟩ := hrc.r1.sl
              obtain ⟨a8, n8, m8, rfl, -⟩ := hrc.r2.sl
              obtain ⟨a9, n9, m9, rfl, -⟩ := hrc.r3.sl
              obtain ⟨⟨e0, e1, e2, e3, e4⟩, -⟩ := cells5 hcc
              obtain ⟨_, _, _, hbx6, -⟩ := HSB6.out.bx
              obtain ⟨⟨y0, y1, y2, y3, y4⟩, ⟨f0, f1, f2, f3, f4⟩⟩ := cells5 hbx6
              have z1 : ¬ 9223372036854775807 < out.size + ta.size := by omega
              have z2 : ¬ 9223372036854775807 < out.size + ta.size + 1 := by omega
              have s5 : IntKind.i64.wrap ((s.size : Int) + 1) = ((s.size + 1 : Nat) : Int) := by rw [IntWalk.i64_in _ (by omega)]; omega
              have HFIN1 : Hid (out ++ ta ++ ⟨#[10]⟩ = ⟨(sessT Bk.new (L ++ [(s.extract f s.size).data.toList])).toArray⟩) := Lib.hid (by
                rw [sess_bytes out ta _ _ HOUT.out HTA.out, sessT_snoc, ← HB.out, HQ.out])
              have HFIN2 : Hid (c = sessB Bk.new (L ++ [(s.extract f s.size).data.toList])) := Lib.hid (by rw [HC.out, sessB_append, ← HB.out, HQ.out]; rfl)
              have HFIN3 : Hid (deskLines s.data.toList = (L ++ [(s.extract f s.size).data.toList]) ++ deskLines (s.data.toList.drop (s.size + 1))) := Lib.hid (by rw [HDL.out, HST.out, HEX.out, List.append_assoc]; rfl)
              clear hta hbw hrc i0 i1 i2 i3 i4 hcc hbx6 hc
              go_wp2_with fail
              go_roundw
              case rel => exact ⟨s.size + 1, L ++ [(s.extract f s.size).data.toList], _, by omega, by first | rfl | (congr 1; omega) | (congr 1; rw [IntWalk.i64_in _ (by omega)]; omega) | go_num, rfl, HFIN1.out, by rw [List.length_append, List.length_singleton]; omega, HFIN3.out, by rw [← HFIN2.out]; exact HSB6.out.set HRC.out rfl⟩
              case measure => simp [intOf]; omega
    · have p1 : decide (f < s.size) = false := decide_eq_false hlt
      have hfin : runT s.data.toList = sessT Bk.new L := by
        unfold runT
        rw [if_neg (by rw [HL.out]; omega), HDL.out, List.drop_of_length_le (by rw [HL.out]; omega), desk_nil, List.append_nil]
      have HFIN := Lib.hid hfin
      clear hfin
      go_wp2_with fail
      go_ret
      exact ⟨by rw [HFIN.out, ← HOUT.out]; rfl, HSB.out.bel⟩

end Go.Proofs.YtegibgflhhdddaaGreatDoor
