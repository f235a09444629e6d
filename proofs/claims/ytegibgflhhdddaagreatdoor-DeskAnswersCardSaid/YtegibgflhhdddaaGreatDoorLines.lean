/- strings.Lines: the lines of a text, one a round. -/
import Derived.Test.YtegibgflhhdddaaGreatDoorLinesLaw
import Derived.Test.YtegibgflhhdddaaGreatDoorBookCut
namespace Go.Proofs.YtegibgflhhdddaaGreatDoor
open Go.RowKit Go.Shelf
attribute [local go_sem] Oper.semAt_some

/-- the lines of a text, each with its line feed; the last without, if it has none -/
def cutLines : List UInt8 → List (List UInt8)
  | [] => []
  | c :: r => if c = 10 then [c] :: cutLines r else match cutLines r with
    | [] => [[c]]
    | x :: xs => (c :: x) :: xs

theorem cutLines_at {a b : List UInt8} (h : (10 : UInt8) ∉ a) : cutLines (a ++ 10 :: b) = (a ++ [10]) :: cutLines b := by
  induction a with
  | nil => rfl
  | cons c a ih =>
    have hc : c ≠ 10 := fun e => h (by simp [e])
    rw [List.cons_append, cutLines, if_neg hc, ih (fun e => h (List.mem_cons_of_mem _ e))]
    rfl
theorem cutLines_skip {a : List UInt8} (h : (10 : UInt8) ∉ a) (h0 : a ≠ []) : cutLines a = [a] := by
  induction a with
  | nil => exact absurd rfl h0
  | cons c a ih =>
    have hc : c ≠ 10 := fun e => h (by simp [e])
    rw [cutLines, if_neg hc]
    cases a with
    | nil => rfl
    | cons d a => rw [ih (fun e => h (List.mem_cons_of_mem _ e)) (by simp)]
theorem cutLines_nil {l : List UInt8} (h : cutLines l = []) : l = [] := by
  cases l with
  | nil => rfl
  | cons c r =>
    rw [cutLines] at h
    split at h
    · cases h
    · split at h <;> cases h
theorem cutLines_step {l x : List UInt8} {xs : List (List UInt8)} (h : cutLines l = x :: xs) : cutLines xs.flatten = xs ∧ l = x ++ xs.flatten ∧ ((∃ a, (10 : UInt8) ∉ a ∧ x = a ++ [10]) ∨ ((10 : UInt8) ∉ x ∧ x ≠ [] ∧ xs = [])) := by
  have key : ∀ (n : Nat) (l : List UInt8), l.length ≤ n → ∀ x xs, cutLines l = x :: xs → cutLines xs.flatten = xs ∧ l = x ++ xs.flatten ∧ ((∃ a, (10 : UInt8) ∉ a ∧ x = a ++ [10]) ∨ ((10 : UInt8) ∉ x ∧ x ≠ [] ∧ xs = [])) := by
    intro n
    induction n with
    | zero =>
      intro l hl x xs h
      obtain rfl : l = [] := List.length_eq_zero_iff.1 (by omega)
      cases h
    | succ n ih =>
      intro l hl x xs h
      by_cases hc : (10 : UInt8) ∈ l
      · obtain ⟨a, b, rfl, ha⟩ := first_cut hc
        rw [cutLines_at ha] at h
        injection h with e1 e2
        have hb : cutLines xs.flatten = xs ∧ b = xs.flatten := by
          cases hx : cutLines b with
          | nil =>
            have := cutLines_nil hx
            rw [hx] at e2
            subst e2
            exact ⟨rfl, this⟩
          | cons y ys =>
            obtain ⟨h1, h2, -⟩ := ih b (by simp at hl; omega) y ys hx
            rw [hx] at e2
            subst e2
            rw [List.flatten_cons, ← h2]
            exact ⟨hx, rfl⟩
        refine ⟨hb.1, ?_, .inl ⟨a, ha, e1.symm⟩⟩
        rw [← e1, ← hb.2]
        simp
      · have h0 : l ≠ [] := fun e => by rw [e] at h; cases h
        rw [cutLines_skip hc h0] at h
        injection h with e1 e2
        subst e1 e2
        exact ⟨rfl, by simp, .inr ⟨hc, h0, rfl⟩⟩
  exact key _ l (Nat.le_refl _) x xs h
theorem cutLines_drop (l : List UInt8) (k : Nat) : cutLines ((cutLines l).drop k).flatten = (cutLines l).drop k := by
  induction k with
  | zero =>
    rw [List.drop_zero]
    cases h : cutLines l with
    | nil => rfl
    | cons x xs =>
      rw [List.flatten_cons, ← (cutLines_step h).2.1]
      exact h
  | succ k ih =>
    cases h : (cutLines l).drop k with
    | nil =>
      have : (cutLines l).drop (k + 1) = [] := by rw [← List.drop_drop, h]; rfl
      rw [this]; rfl
    | cons x xs =>
      have e : (cutLines l).drop (k + 1) = xs := by rw [← List.drop_drop, h]; rfl
      rw [e]
      rw [h] at ih
      exact (cutLines_step ih).1

theorem cutLines_flat (l : List UInt8) : (cutLines l).flatten = l := by
  cases h : cutLines l with
  | nil => rw [cutLines_nil h]; rfl
  | cons x xs => rw [List.flatten_cons, ← (cutLines_step h).2.1]
theorem cutLines_left (l : List UInt8) (k : Nat) : ((cutLines l).drop k).flatten.length ≤ l.length := by
  have h := congrArg List.length (cutLines_flat l)
  rw [← List.take_append_drop k (cutLines l), List.flatten_append, List.length_append] at h
  omega
theorem ext_front {s : ByteArray} {a b : List UInt8} (h : s.data.toList = a ++ b) (n : Nat) (hn : n = a.length) : s.extract 0 n = ⟨a.toArray⟩ := by
  refine str_eq ?_
  rw [ByteArray.data_extract, Array.toList_extract, h, hn]
  simp [List.extract]
theorem ext_back {s : ByteArray} {a b : List UInt8} (h : s.data.toList = a ++ b) (n : Nat) (hn : n = a.length) : s.extract n s.size = ⟨b.toArray⟩ := by
  have h1 : s.size = a.length + b.length := by
    have : s.data.toList.length = s.size := rfl
    rw [h] at this
    simp at this
    omega
  refine str_eq ?_
  rw [ByteArray.data_extract, Array.toList_extract, h, h1, hn]
  simp [List.extract]

def lineV (l : List UInt8) (k : Nat) : Value := .string ⟨((cutLines l).getD k []).toArray⟩
def restV (l : List UInt8) (k : Nat) : Value := .string ⟨(((cutLines l).drop k).flatten).toArray⟩

/-- how long the text in the box is -/
def boxLen (c : Nat) (w : World) : Nat := match w.cell? ⟨c, 0, none⟩ with
  | some (.string s) => s.size
  | _ => 0

set_option maxRecDepth 100000 in
set_option maxHeartbeats 4000000 in
theorem lines_seq (n c : Nat) (hn : 1 ≤ n) (t : List UInt8) (ht : t.length ≤ 1000000) :
    SeqBox Fence.wide n Tryz.prog 15 #[.pointer (some ⟨c, 0, none⟩)] c 9 (lineV t) (restV t) (cutLines t).length := by
  intro l J Jx W hJd hJc hY h0 hb0
  refine callsIn_of_wp Tryz.func15 rfl trivial ?_ rfl
  simp only [Tryz.ntmps15, List.size_toArray, List.length_cons, List.length_nil, Nat.reduceAdd, Nat.reduceSub, Array.replicate_succ, Array.replicate_zero, List.push_toArray, List.append_toArray, List.nil_append, List.cons_append]
  gi_wp2
  gi_loopw [] (fun wr => ∃ k : Nat, k ≤ (cutLines t).length ∧ J k wr ∧ wr.heap[c]? = some (.cells #[restV t k] 9 (0, 0))) (fun wr => boxLen c wr)
  case atStart => exact ⟨0, Nat.zero_le _, h0, hb0⟩
  case round =>
    obtain ⟨k, hk, hj, hbx⟩ := hrel
    obtain ⟨s, hs⟩ : ∃ s : ByteArray, s = ⟨(((cutLines t).drop k).flatten).toArray⟩ := ⟨_, rfl⟩
    have hsd : s.data.toList = ((cutLines t).drop k).flatten := by rw [hs]
    have hbx' : wr.heap[c]? = some (.cells #[.string s] 9 (0, 0)) := by rw [hs]; exact hbx
    have hcell := Boxed.cell hbx'
    have hfroz := Boxed.frozen hbx'
    have HBX := Lib.hid hbx'
    have HSD := Lib.hid hsd
    have HJ := Lib.hid hj
    have HJD := Lib.hid hJd
    have HJC := Lib.hid hJc
    have HY := Lib.hid hY
    have hcd := cutLines_drop t k
    rw [← hsd] at hcd
    clear hbx hbx' hsd hs hj hJd hJc hY h0 hb0
    cases hx : (cutLines t).drop k with
    | nil =>
      have hs0 : s.size = 0 := by
        have := HSD.out
        rw [hx] at this
        have h2 : s.data.toList.length = s.size := rfl
        rw [this] at h2
        exact h2.symm
      have HX := Lib.hid hx
      clear hx hcd
      gi_wp2
      go_end0
      refine ⟨⟨_, rfl⟩, .inl ?_⟩
      obtain rfl : k = (cutLines t).length := by
        have := congrArg List.length HX.out
        simp at this
        omega
      exact HJ.out
    | cons x xs =>
      rw [hx] at hcd
      have hstep := cutLines_step hcd
      have hkl : k < (cutLines t).length := by
        have := congrArg List.length hx
        simp at this
        omega
      have hgx : (cutLines t).getD k [] = x := by
        have h1 : ((cutLines t).drop k)[0]? = some x := by rw [hx]; rfl
        rw [List.getElem?_drop, Nat.add_zero] at h1
        simp [h1]
      have hdx : (cutLines t).drop (k + 1) = xs := by rw [← List.drop_drop, hx]; rfl
      have HST := Lib.hid hstep
      have HGX := Lib.hid hgx
      have HDX := Lib.hid hdx
      clear hx hcd hstep hgx hdx
      rcases HST.out.2.2 with ⟨a, ha, hxa⟩ | ⟨hxn, hx0, hxs⟩
      · have hsz : s.size = a.length + 1 + xs.flatten.length := by
          have h1 : s.data.toList.length = s.size := rfl
          rw [HST.out.2.1, hxa] at h1
          simp at h1
          simp
          omega
        have hpos : 0 < s.size := by omega
        have hbig : s.size ≤ 1000000 := by
          have h1 : s.data.toList.length = s.size := rfl
          have h2 := cutLines_left t k
          rw [HSD.out] at h1
          omega
        have HSZ := Lib.hid hsz
        clear hsz
        gi_wp2
        refine ⟨trivial, ?_⟩
        gi_at_call 16
        refine (callsIn_wide.2 (Tryz.strings_IndexByte s 10 _)).mono ?_
        rintro e w1 ⟨rfl, hw1⟩
        obtain rfl := hw1.symm
        have hix : Lib.indexByte s.data.toList (Int.toNat 10).toUInt8 = (a.length : Nat) := by
          rw [HST.out.2.1, hxa, List.append_assoc]
          exact indexByte_at ha
        rw [hix]
        have hge : (0 : Int) ≤ (a.length : Int) := by omega
        have hle : (a.length : Int) + 1 ≤ (s.size : Int) := by have := HSZ.out; omega
        clear hix
        gi_wp2
        have hline : lineV t k = .string (s.extract 0 (a.length + 1)) := by
          unfold lineV
          rw [HGX.out, ext_front (a := x) HST.out.2.1 (a.length + 1) (by rw [hxa]; simp)]
        have hrest : restV t (k + 1) = .string (s.extract (a.length + 1) s.size) := by
          unfold restV
          rw [HDX.out, ext_back (a := x) HST.out.2.1 (a.length + 1) (by rw [hxa]; simp)]
        have hyy := HY.out k (wr.setCell ⟨c, 0, none⟩ (.string (s.extract (a.length + 1) s.size))).drew hkl (HJD.out _ _ (HJC.out k wr _ HJ.out)) (by rw [hrest]; exact Boxed.set (.string (s.extract (a.length + 1) s.size)) HBX.out)
        rw [hline] at hyy
        obtain ⟨fn, tmps, assign, body, hy, hR⟩ := hyy
        have HR := Lib.hid hR
        have HLEN : Hid (boxLen c (wr.setCell ⟨c, 0, none⟩ (.string (s.extract (a.length + 1) s.size))).drew < boxLen c wr) := Lib.hid (by
          have e1 : boxLen c (wr.setCell ⟨c, 0, none⟩ (.string (s.extract (a.length + 1) s.size))).drew = (s.extract (a.length + 1) s.size).size := by
            unfold boxLen
            rw [World.cell?_drew, Boxed.cell (Boxed.set (.string (s.extract (a.length + 1) s.size)) HBX.out)]
          have e2 : boxLen c wr = s.size := by unfold boxLen; rw [hcell]
          rw [e1, e2, ByteArray.size_extract]
          omega)
        have HREST := Lib.hid hrest
        have HBS := Lib.hid (show (wr.setCell ⟨c, 0, none⟩ (.string (s.extract (a.length + 1) s.size))).drew.heap[c]? = some (.cells #[.string (s.extract (a.length + 1) s.size)] 9 (0, 0)) from Boxed.set (.string (s.extract (a.length + 1) s.size)) HBX.out)
        clear hline hrest hR
        gi_region
        gi_wp2
        refine HR.out.mono ?_
        rintro e W' (⟨rfl, hj', hk'⟩ | ⟨rfl, hjx'⟩)
        · have HJ' := Lib.hid hj'
          have HK' := Lib.hid hk'
          clear hj' hk'
          gi_wp2
          go_roundw
          case rel => exact ⟨k + 1, hkl, HJ'.out, by rw [HK'.out, HREST.out]; exact HBS.out⟩
          case measure =>
            have e : boxLen c W' = boxLen c (wr.setCell ⟨c, 0, none⟩ (.string (s.extract (a.length + 1) s.size))).drew := by
              unfold boxLen
              rw [World.cell?_of_block (a := ⟨c, 0, none⟩) HK'.out]
            rw [e]
            exact HLEN.out
        · have HJX := Lib.hid hjx'
          clear hjx'
          gi_wp2
          refine bodyPost_ret (results_none rfl _ _ _) rfl ?_
          exact ⟨⟨_, rfl⟩, .inr HJX.out⟩
      · have hsx : s.data.toList = x := by rw [HST.out.2.1, hxs]; simp
        have hsz : s.size = x.length := by rw [← hsx]; rfl
        have hpos : 0 < s.size := by rw [hsz]; exact List.length_pos_iff.2 hx0
        have HXN := Lib.hid hxn
        have HSX := Lib.hid hsx
        have HXS := Lib.hid hxs
        clear hsz hxn hx0 hsx hxs
        gi_wp2
        refine ⟨trivial, ?_⟩
        gi_at_call 16
        refine (callsIn_wide.2 (Tryz.strings_IndexByte s 10 _)).mono ?_
        rintro e w1 ⟨rfl, hw1⟩
        obtain rfl := hw1.symm
        have hix : Lib.indexByte s.data.toList (Int.toNat 10).toUInt8 = -1 := by
          rw [HSX.out]
          exact indexByte_skip HXN.out
        rw [hix]
        clear hix
        have hline : lineV t k = .string s := by
          unfold lineV
          rw [HGX.out, ← HSX.out]
        have hrest : restV t (k + 1) = .string ⟨#[]⟩ := by
          unfold restV
          rw [HDX.out, HXS.out]
          rfl
        have hyy := HY.out k (wr.setCell ⟨c, 0, none⟩ (.string ⟨#[]⟩)) hkl (HJC.out k wr _ HJ.out) (by rw [hrest]; exact Boxed.set (.string ⟨#[]⟩) HBX.out)
        rw [hline] at hyy
        obtain ⟨fn, tmps, assign, body, hy, hR⟩ := hyy
        have HR := Lib.hid hR
        have HLEN : Hid (boxLen c (wr.setCell ⟨c, 0, none⟩ (.string ⟨#[]⟩)) < boxLen c wr) := Lib.hid (by
          have e1 : boxLen c (wr.setCell ⟨c, 0, none⟩ (.string ⟨#[]⟩)) = 0 := by
            unfold boxLen
            rw [Boxed.cell (Boxed.set (.string ⟨#[]⟩) HBX.out)]
            rfl
          have e2 : boxLen c wr = s.size := by unfold boxLen; rw [hcell]
          rw [e1, e2]
          exact hpos)
        have HREST := Lib.hid hrest
        have HBS := Lib.hid (show (wr.setCell ⟨c, 0, none⟩ (.string ⟨#[]⟩)).heap[c]? = some (.cells #[.string ⟨#[]⟩] 9 (0, 0)) from Boxed.set (.string ⟨#[]⟩) HBX.out)
        clear hline hrest hR
        gi_wp2
        refine HR.out.mono ?_
        rintro e W' (⟨rfl, hj', hk'⟩ | ⟨rfl, hjx'⟩)
        · have HJ' := Lib.hid hj'
          have HK' := Lib.hid hk'
          clear hj' hk'
          gi_wp2
          go_roundw
          case rel => exact ⟨k + 1, hkl, HJ'.out, by rw [HK'.out, HREST.out]; exact HBS.out⟩
          case measure =>
            have e : boxLen c W' = boxLen c (wr.setCell ⟨c, 0, none⟩ (.string ⟨#[]⟩)) := by
              unfold boxLen
              rw [World.cell?_of_block (a := ⟨c, 0, none⟩) HK'.out]
            rw [e]
            exact HLEN.out
        · have HJX := Lib.hid hjx'
          clear hjx'
          gi_wp2
          refine bodyPost_ret (results_none rfl _ _ _) rfl ?_
          exact ⟨⟨_, rfl⟩, .inr HJX.out⟩

end Go.Proofs.YtegibgflhhdddaaGreatDoor
