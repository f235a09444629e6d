/- The book reads a line, whatever it is; the book without the group that waits. -/
import Derived.Test.YtegibgflhhdddaaGreatDoorBook6
namespace Go.Proofs.YtegibgflhhdddaaGreatDoor
open Go.RowKit

theorem parse_none {l : List UInt8} (h : lastCut 32 l = none) : parse l = .bad 2 := by
  simp only [parse, h]

theorem line_walk (w : World) (B g : Nat) (b : Bk) (s : ByteArray) (hb : BookIs w g b) (hB : B ≤ g) (he : Env B w) (hok : b.ok) (hs : s.size ≤ 2000) :
    Calls Tryz.prog 59 #[.pointer (some ⟨g, 0, none⟩), .string s] w fun e w' => e = .returned (errV (b.cmdE (parse s.data.toList) : Nat)) ∧ BookIs w' g (b.cmd (parse s.data.toList)) ∧ BkFrame w w' g := by
  cases hc : lastCut 32 s.data.toList with
  | none =>
    refine (line_none w g s hs hc).mono ?_
    rintro e w' ⟨rfl, rfl⟩
    rw [parse_none hc]
    exact ⟨rfl, hb, BkFrame.refl _ _⟩
  | some p =>
    obtain ⟨wd, nm⟩ := p
    exact line_some w B g b s wd nm hb hB he hok hs hc

theorem count_lines (c : UInt8) : ∀ (L : List (List UInt8)), (∀ l ∈ L, c ∉ l) → ((L.map (· ++ [c])).flatten).count c = L.length
  | [], _ => rfl
  | l :: L, h => by
    have hn := h l List.mem_cons_self
    have ih := count_lines c L (fun x hx => h x (List.mem_cons_of_mem _ hx))
    have e0 : ((l :: L).map (· ++ [c])).flatten = l ++ c :: (L.map (· ++ [c])).flatten := by simp
    rw [e0, count_skip hn, ih, List.length_cons]

/-- the lines of a book's text, each with its line feed, and nothing behind -/
theorem after_walk (b : Bk) (hok : b.ok) (w : World) (B : Nat) (he : Env B w) :
    Calls Tryz.prog 76 #[.string ⟨b.text.toArray⟩, .string ⟨#[10]⟩] w fun e w' => (∃ r L, e = .returned (.slice (some ⟨r, 0, none⟩) (L.length) L.length) ∧ (w.heap.size ≤ r ∧ r < w'.heap.size) ∧ HasStrs w' (.slice (some ⟨r, 0, none⟩) L.length L.length) L ∧ L.map (·.data.toList) = b.T.map (· ++ [10]) ++ [[]]) ∧ Below w.heap.size w w' := by
  obtain ⟨m, hm⟩ := he.here.max
  have htl := b.text_le hok
  have hsz : (⟨b.text.toArray⟩ : ByteArray).size = b.text.length := List.size_toArray
  have hcv : Lib.countB ⟨b.text.toArray⟩ ⟨#[10]⟩ = b.T.length := by
    have := Lib.count_one 10 b.text
    unfold Lib.countB
    refine this.trans ?_
    exact count_lines 10 b.T hok.feed
  have hle : b.T.length ≤ b.text.length := by
    rw [← hcv, ← hsz]
    exact Lib.countB_le ⟨#[10]⟩ (by decide) _ _ (Nat.le_refl _)
  have hlen : (Lib.splitB ⟨#[10]⟩ 1 b.T.length ⟨b.text.toArray⟩).length = b.T.length + 1 := by
    have h := congrArg List.length (Lib.splitB_data (⟨#[10]⟩ : ByteArray) 1 b.T.length ⟨b.text.toArray⟩)
    have h2 := congrArg List.length (splitK_lines 10 b.T hok.feed)
    rw [List.length_map] at h
    refine h.trans (h2.trans ?_)
    simp
  go_enter Tryz.func76, Tryz.ntmps76
  go_wp2_with fail
  refine (Tryz.strings_genSplit ⟨b.text.toArray⟩ ⟨#[10]⟩ 1 (-1) (b.T.length + 1) m w (by omega) hm (by decide) (by decide) (by decide) (by decide) (by rw [if_pos (by decide), hcv]; omega)).mono ?_
  rintro e w' ⟨rfl, rfl⟩
  rw [Nat.add_sub_cancel, hlen]
  go_wp2_with fail
  go_ret
  refine ⟨⟨w.heap.size, Lib.splitB ⟨#[10]⟩ 1 b.T.length ⟨b.text.toArray⟩, by rw [hlen]; rfl, ⟨Nat.le_refl _, by simp⟩, ?_, ?_⟩, (Below.refl _ _).alloc (Nat.le_refl _) _⟩
  · refine ⟨_, _, rfl, Nat.le_refl _, by unfold maxLen; omega, fun _ => ⟨w.heap.size, 0, rfl, by simp, fun j x hj => ?_⟩⟩
    unfold World.cell?
    simp only [Nat.zero_add]
    rw [heap_alloc_new]
    have hj' : j < b.T.length + 1 := by rw [← hlen]; exact (List.getElem?_eq_some_iff.1 hj).1
    simp only [Lib.cellsOf, hlen, Nat.sub_self, List.replicate_zero, List.append_nil, List.getElem?_toArray, List.getElem?_map, hj]
    rfl
  · rw [Lib.splitB_data]
    exact splitK_lines 10 b.T hok.feed

theorem own_slice {w : World} {base : Nat} {e : TypeId} {size : Nat} {v : Value} {n : Nat} {xs : List Value} (h : w.ownsRow base e size v n xs) : ∃ a cap, v = .slice a n cap := by
  rcases h.2 with ⟨rfl, h0⟩ | ⟨g', cap', cur, rfl, -⟩
  · exact ⟨none, 0, by rw [h0]⟩
  · exact ⟨_, _, rfl⟩

theorem BkOwn.new_after {w w' : World} {g : Nat} {B' : List Nat} {G' : List (Nat × Nat)} {txt' : List UInt8} {m' : Nat} (h0 : ∀ x, BkOwn w g x → x = g) (h : BookAt w' g B' G' txt' m') (hf : BkFrame w w' g) (hz : w'.heap.size = w.heap.size) : ∀ x, BkOwn w' g x → x = g := fun x hx => by
  rcases hf.own x hx with h1 | h1
  · exact h0 x h1
  · have := (h.own_lt hx).2
    omega

theorem HasStrs.block {w w' : World} {r n : Nat} {c : Nat} {L : List ByteArray} (h : HasStrs w (.slice (some ⟨r, 0, none⟩) n c) L) (hb : w'.heap[r]? = w.heap[r]?) (hz : w.heap.size ≤ w'.heap.size) : HasStrs w' (.slice (some ⟨r, 0, none⟩) n c) L := by
  obtain ⟨a, cap, e1, h2, h3, h4⟩ := h
  cases e1
  refine ⟨_, _, rfl, h2, h3, fun h0 => ?_⟩
  obtain ⟨b', off, e5, h6, h7⟩ := h4 h0
  cases e5
  exact ⟨r, 0, rfl, Nat.lt_of_lt_of_le h6 hz, fun j x hj => (World.cell?_of_block (a := ⟨r, 0 + j, none⟩) hb).trans (h7 j x hj)⟩

set_option maxRecDepth 100000 in
set_option maxHeartbeats 4000000 in
theorem whole_walk (w : World) (B g : Nat) (b : Bk) (hb : BookIs w g b) (hB : B ≤ g) (he : Env B w) (hok : b.ok) :
    Calls Tryz.prog 60 #[.pointer (some ⟨g, 0, none⟩)] w fun e w' => ∃ g', e = .returned (.pointer (some ⟨g', 0, none⟩)) ∧ BookIs w' g' b.whole ∧ w.heap.size ≤ g' ∧ Below g w w' ∧ ∀ x, x < w.heap.size → ¬ BkOwn w g x → w'.heap[x]? = w.heap[x]? := by
  have HB := Lib.hid hb
  have HE := Lib.hid he
  have hglt := hb.lt
  obtain ⟨tl, htl⟩ : ∃ n, n = b.T.length := ⟨_, rfl⟩
  obtain ⟨gl, hgl⟩ : ∃ n, n = b.G.length := ⟨_, rfl⟩
  have htl60 : tl ≤ 60 := by have := hok.many; omega
  have hgtl : gl ≤ tl := by have := hok.waits; omega
  have HTL := Lib.hid htl
  have HGL := Lib.hid hgl
  obtain ⟨n0, n1, n2, n3, n4, n5, n6, n7, hB8⟩ : ∃ n0 n1 n2 n3 n4 n5 n6 n7 : Nat, b.B = [n0, n1, n2, n3, n4, n5, n6, n7] := by
    have := hok.len
    match b.B, this with
    | [n0, n1, n2, n3, n4, n5, n6, n7], _ => exact ⟨n0, n1, n2, n3, n4, n5, n6, n7, rfl⟩
  have HB8 := Lib.hid hB8
  clear hb he htl hgl hB8
  go_enter Tryz.func60, Tryz.ntmps60
  go_wp2_with fail
  refine (new_walk _).mono ?_
  rintro _ w1 ⟨rfl, ⟨hbk1, hown1⟩, hb1⟩
  have HOW1 := Lib.hid hown1
  have HB1 := Lib.hid hb1
  have HN1 := Lib.hid hbk1
  obtain ⟨g1, hg1⟩ : ∃ g1, g1 = w.heap.size := ⟨_, rfl⟩
  rw [← hg1] at HN1 HOW1 ⊢
  have hgg : g < g1 := by omega
  have HG1 := Lib.hid hg1
  have HBL := Lib.hid (HB.out.later hb1)
  clear hbk1 hb1 hg1 hown1
  go_upto_region 2 with fail
  go_cut [] (fun wx => (BookAt wx g1 b.B [] [] (tl - gl) ∧ ∀ x, BkOwn wx g1 x → x = g1) ∧ Below w.heap.size w wx)
  case first =>
    obtain ⟨gv, hgv, hgo⟩ := HBL.out.grp
    obtain ⟨ga, gcap, rfl⟩ : ∃ ga gcap, gv = .slice ga gl gcap := by
      rw [HGL.out]
      exact own_slice hgo
    have hm := HBL.out.many
    rw [← HTL.out] at hm
    have hcs := HBL.out.cells
    rw [HB8.out] at hcs
    have c0 := hcs 0 n0 rfl
    have c1 := hcs 1 n1 rfl
    have c2 := hcs 2 n2 rfl
    have c3 := hcs 3 n3 rfl
    have c4 := hcs 4 n4 rfl
    have c5 := hcs 5 n5 rfl
    have c6 := hcs 6 n6 rfl
    have c7 := hcs 7 n7 rfl
    have ho := HN1.out.cells
    have o0 := ho 0 0 rfl
    have o1 := ho 1 0 rfl
    have o2 := ho 2 0 rfl
    have o3 := ho 3 0 rfl
    have o4 := ho 4 0 rfl
    have o5 := ho 5 0 rfl
    have o6 := ho 6 0 rfl
    have o7 := ho 7 0 rfl
    have o11 := HN1.out.many
    have hfr := HN1.out.free
    clear hcs ho hgo
    have hwr : IntKind.i64.wrap ((tl : Int) - (gl : Int)) = ((tl - gl : Nat) : Int) := by rw [IntWalk.i64_in _ (by omega)]; omega
    go_region
    have k0 := HN1.out.valued (i := 0) (by decide) n0
    have k1 := k0.1.valued (i := 1) (by decide) n1
    have k2 := k1.1.valued (i := 2) (by decide) n2
    have k3 := k2.1.valued (i := 3) (by decide) n3
    have k4 := k3.1.valued (i := 4) (by decide) n4
    have k5 := k4.1.valued (i := 5) (by decide) n5
    have k6 := k5.1.valued (i := 6) (by decide) n6
    have k7 := k6.1.valued (i := 7) (by decide) n7
    have k8 := k7.1.counted (tl - gl)
    have kf := (((((((k0.2.trans k1.2).trans k2.2).trans k3.2).trans k4.2).trans k5.2).trans k6.2).trans k7.2).trans k8.2
    have ko := BkOwn.new_after HOW1.out k8.1 kf (by simp)
    have kd := k8.1.below (Below.refl _ _).drew
    have K8 := Lib.hid kd.1
    have KO := Lib.hid (fun x hx => ko x ((kd.2 x).1 hx))
    have KF := Lib.hid (kf.below g1 (Nat.le_refl _)).drew
    clear k0 k1 k2 k3 k4 k5 k6 k7 k8 kf ko kd
    go_wp2_with fail
    go_meet
    exact ⟨⟨by rw [HB8.out]; exact K8.out, KO.out⟩, HB1.out.trans (by rw [← HG1.out]; exact KF.out)⟩
  case rest =>
    obtain ⟨⟨hx1, hx2⟩, hx3⟩ := hcut
    have HX1 := Lib.hid hx1
    have HX2 := Lib.hid hx2
    have HX3 := Lib.hid hx3
    have HBX := Lib.hid (HB.out.later hx3)
    clear hx1 hx2 hx3
    go_wp2_with fail
    refine (text_walk wc g b HBX.out).mono ?_
    rintro _ w4 ⟨rfl, hbk4, hf4⟩
    have hk4 := HX1.out.keep hf4.size (fun x hx => hf4.blocks x (HX1.out.own_lt hx).2 (fun hg => by
      have h1 := (HX1.out.own_lt hx).1
      have h2 := (HB.out.own_lt (((HB.out.below HX3.out).2 x).1 hg)).2
      rw [HG1.out] at h1
      omega))
    have HY1 := Lib.hid hk4.1
    have HY2 := Lib.hid (fun x hx => HX2.out x ((hk4.2 x).1 hx))
    have HY3 := Lib.hid ((HX3.out.mono (Nat.le_of_lt hglt)).trans (hf4.below g (Nat.le_refl _)))
    have hz4 : g1 < w4.heap.size := hk4.1.lt
    have HF4 := Lib.hid (fun (x : Nat) (hx : x < w.heap.size) (ho : ¬ BkOwn w g x) => (hf4.blocks x (Nat.lt_of_lt_of_le hx HX3.out.size) (fun h => ho (((HB.out.below HX3.out).2 x).1 h))).trans (HX3.out.block x hx))
    have hz45 := hf4.size
    have hzw := HX3.out.size
    clear hk4 hbk4 hf4
    go_wp2_with fail
    refine (after_walk b hok w4 B (HE.out.on (HY3.out.mono hB))).mono ?_
    rintro e w5 ⟨⟨r, L, rfl, hr, hL, hLd⟩, hb5⟩
    have hk5 := HY1.out.below hb5
    have HF5 := Lib.hid (fun (x : Nat) (hx : x < w.heap.size) (ho : ¬ BkOwn w g x) => (hb5.block x (by omega)).trans (HF4.out x hx ho))
    have hz5' := hb5.size
    have HZ1 := Lib.hid hk5.1
    have HZ2 := Lib.hid (fun x hx => HY2.out x ((hk5.2 x).1 hx))
    have HZ3 := Lib.hid (HY3.out.trans (hb5.mono (by omega)))
    have hLn : L.length = tl + 1 := by
      have := congrArg List.length hLd
      simp at this
      have := HTL.out
      omega
    rw [hLn] at hL ⊢
    have HL := Lib.hid hL
    have HLD := Lib.hid hLd
    have hz5 := hk5.1.lt
    have hrg : r ≠ g1 := by omega
    obtain ⟨m, hm⟩ : ∃ m, m = tl - gl := ⟨_, rfl⟩
    rw [← hm] at HZ1
    have hmt : m ≤ tl := by omega
    have HM := Lib.hid hm
    have cm := HZ1.out.many
    have hi0 : (0 : Int) ≤ (m : Int) := by omega
    have hi1 : (m : Int) ≤ ((tl + 1 : Nat) : Int) := by omega
    clear hk5 hL hLd hb5 hm hLn
    go_wp2_with fail
    go_loopw [38] (fun i wr => ∃ (k : Nat), k ≤ m ∧ i = .int .i64 k ∧ BookAt wr g1 b.B [] ((b.T.take k).map (· ++ [10])).flatten m ∧ (∀ x, BkOwn wr g1 x → x = g1 ∨ w5.heap.size ≤ x) ∧ (∀ x, x < w5.heap.size → x ≠ g1 → wr.heap[x]? = w5.heap[x]?) ∧ w5.heap.size ≤ wr.heap.size ∧ Below g1 w5 wr) (fun i _ => m - (intOf i).toNat)
    case atStart => exact ⟨0, Nat.zero_le _, rfl, HZ1.out, fun x hx => .inl (HZ2.out x hx), fun _ _ _ => rfl, Nat.le_refl _, Below.refl _ _⟩
    case round =>
      obtain ⟨k, hk, rfl, hb1, ho1, hs1, hz1, hbl⟩ := hrel
      have HA := Lib.hid hb1
      have HO := Lib.hid ho1
      have HS := Lib.hid hs1
      have HW := Lib.hid hbl
      clear hb1 ho1 hs1 hbl
      by_cases hlt : k < m
      · have hq1 : decide (k < m) = true := decide_eq_true hlt
        obtain ⟨y, hy⟩ : ∃ y, b.T[k]? = some y := ⟨_, List.getElem?_eq_getElem (by have := HTL.out; omega)⟩
        obtain ⟨z, hz, hzy⟩ : ∃ z, L[k]? = some z ∧ z.data.toList = y ++ [10] := by
          have h1 := congrArg (fun l : List (List UInt8) => l[k]?) HLD.out
          have hkl : k < b.T.length := (List.getElem?_eq_some_iff.1 hy).1
          simp only [List.getElem?_map] at h1
          rw [List.getElem?_append_left (by simpa using hkl), List.getElem?_map, hy] at h1
          cases hz : L[k]? with
          | none => rw [hz] at h1; cases h1
          | some z =>
            rw [hz] at h1
            exact ⟨z, rfl, by simpa using h1⟩
        have hcz : wr.cell? ⟨r, k, none⟩ = some (.string z) := by
          obtain ⟨a', cap', e1, -, -, e4⟩ := HL.out.block (HS.out r hr.2 hrg) hz1
          obtain ⟨b', off', e5, -, e6⟩ := e4 (Nat.lt_of_le_of_lt (Nat.zero_le _) (List.getElem?_eq_some_iff.1 hz).1)
          simp only [Value.slice.injEq] at e1
          obtain ⟨rfl, -, -⟩ := e1
          cases e5
          have := e6 k z hz
          rwa [Nat.zero_add] at this
        have hzsz : z.size ≤ 41 := by
          have h1 : z.data.toList.length = z.size := rfl
          rw [hzy] at h1
          have h2 := hok.short y (List.mem_of_getElem? hy)
          simp at h1
          omega
        have htlen : ((b.T.take k).map (· ++ [10])).flatten.length ≤ 2460 := by
          have h1 := flat_le (b.T.take k) 40 (fun l hl => Nat.le_trans (hok.short l (List.mem_of_mem_take hl)) (by decide))
          have h2 : (b.T.take k).length ≤ 60 := by simp; omega
          have h3 := Nat.mul_le_mul_right 41 h2
          omega
        have HY0 := Lib.hid hy
        have HZY := Lib.hid hzy
        clear hy hz hzy
        go_wp2_with fail
        refine (bld_write wr 51 12 (g1 + 1) g1 9 _ z HA.out.bld (by omega)).mono ?_
        rintro _ w7 ⟨rfl, hbw, hfr⟩
        obtain ⟨hb7, hf7⟩ := HA.out.built hfr hbw
        have HB7 := Lib.hid hb7
        have HF7 := Lib.hid hf7
        clear hbw hfr hb7 hf7
        go_wp2_with fail
        go_roundw
        case rel =>
          refine ⟨k + 1, by omega, by go_num, ?_, fun x hx => ?_, fun x hx hne => ?_, Nat.le_trans hz1 HF7.out.size, HW.out.trans (HF7.out.below g1 (Nat.le_refl _))⟩
          · rw [List.take_succ_eq_append_getElem (List.getElem?_eq_some_iff.1 HY0.out).1, text_snoc, (List.getElem?_eq_some_iff.1 HY0.out).2, ← HZY.out]
            exact HB7.out
          · rcases HF7.out.own x hx with h1 | h1
            · exact HO.out x h1
            · exact .inr (Nat.le_trans hz1 h1)
          · rw [HF7.out.blocks x (Nat.lt_of_lt_of_le hx hz1) (fun ho => ?_)]
            · exact HS.out x hx hne
            · rcases HO.out x ho with h1 | h1
              · exact hne h1
              · omega
        case measure => simp [intOf]; omega
      · obtain rfl : k = m := by omega
        have hq1 : decide (k < k) = false := decide_eq_false hlt
        go_wp2_with fail
        go_ret
        refine ⟨g1, rfl, ?_, Nat.le_of_eq HG1.out.symm, HZ3.out.trans (HW.out.mono (Nat.le_of_lt hgg)), fun x hx ho => (HS.out x (by omega) (by have := HG1.out; omega)).trans (HF5.out x hx ho)⟩
        have e : k = b.T.length - b.G.length := by rw [← HTL.out, ← HGL.out]; exact HM.out
        have h := HA.out
        rw [e] at h
        show BookAt wr g1 b.B [] ((b.T.take (b.T.length - b.G.length)).map (· ++ [10])).flatten (b.T.take (b.T.length - b.G.length)).length
        rw [List.length_take, Nat.min_eq_left (Nat.sub_le _ _)]
        exact h

end Go.Proofs.YtegibgflhhdddaaGreatDoor
