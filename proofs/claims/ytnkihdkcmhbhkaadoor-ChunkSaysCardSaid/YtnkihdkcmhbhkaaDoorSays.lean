/- The walk of ChunkSays. -/
import Derived.Test.YtnkihdkcmhbhkaaDoorRefPieces
import Derived.Test.YtnkihdkcmhbhkaaDoorTold
import Derived.Test.YtnkihdkcmhbhkaaDoorInts
import Derived.Test.YtnkihdkcmhbhkaaDoorTexts
namespace Go.Proofs.YtnkihdkcmhbhkaaDoor
open Go.RowKit Chunk

def SaysRel (w wr : World) (cs : List Nat) (k : Nat) (v : Value) : Prop :=
  wr.ownsRow w.heap.size 3 1 v k (ints ((cs.take k).map Int.ofNat)) ∧ Below w.heap.size w wr

theorem says_step {w wr : World} {cs : List Nat} {k c : Nat} {v : Value} (h : cs[k]? = some c) (hown : wr.ownsRow w.heap.size 3 1 v (k + 1) (ints ((cs.take k).map Int.ofNat) ++ [.int .i64 (c : Int)]))
    (hb : Below w.heap.size w wr) : SaysRel w wr cs (k + 1) v := by
  refine ⟨?_, hb⟩
  rw [List.take_add_one, h]
  simpa [ints] using hown

set_option maxHeartbeats 1000000 in
theorem says_walk (s : ByteArray) (w : World) (hs : s.size ≤ 140737488351232) (hg : Handled w) :
    Calls Tryd.prog 3 #[.string s] w fun e w' => e = .returned (.bool true) ∧ Below w.heap.size w w' := by
  have HG := Lib.hid hg
  clear hg
  by_cases h1 : s.size ≤ 2000
  · go_enter Tryd.func3, Tryd.ntmps3
    go_wp2_with fail
    refine (refPieces_any s _ h1).mono ?_
    rintro _ w2 ⟨v2, rfl, hown2, hb2⟩
    have HB2 := Lib.hid hb2
    obtain ⟨cs, hcs⟩ : ∃ cs, cs = cuts s.data.toList := ⟨_, rfl⟩
    rw [← hcs] at hown2
    have hs2 := (HasStrs.of_own hown2).2
    obtain ⟨hl, a, cap, rfl, hc1, hc2, hcell⟩ := HasStrs.of_own hown2
    rw [piecesB_length] at hc1 hcell hs2 ⊢
    have hlen : cs.length ≤ 2000 := by rw [hcs]; have := cuts_length s.data.toList; simp at this; omega
    have SZ := Lib.hid (show ∀ (k c : Nat), cs[k]? = some c → lastOf cs k < c ∧ (s.extract (lastOf cs k) c).size = c - lastOf cs k ∧ c ≤ s.size from fun k c h => by
      subst hcs
      have := cuts_inv h
      simp at this
      refine ⟨this.1, by simp; omega, by omega⟩)
    obtain ⟨n, hn⟩ : ∃ n, n = cs.length := ⟨_, rfl⟩
    have PG := Lib.hid (show ∀ (k c : Nat), k < n → cs[k]? = some c → (piecesB s cs n)[k]? = some (s.extract (lastOf cs k) c) from fun k c hk h => piecesB_get s hk h)
    rw [← hn] at hc1 hcell hlen hs2 ⊢
    have OW2 := Lib.hid hs2
    clear hs2
    have HN := Lib.hid hn
    have HC := Lib.hid hcell
    have HCS := Lib.hid hcs
    clear hb2 hown2 hl hcs hn hcell
    go_wp2_with fail
    go_loopw [4, 6, 7] (fun u m i wr => ∃ k : Nat, k ≤ n ∧ i = .int .i64 k ∧ m = .int .i64 (lastOf cs k : Nat) ∧ SaysRel w2 wr cs k u) (fun _ _ i _ => n - (intOf i).toNat)
    case atStart => exact ⟨0, Nat.zero_le _, rfl, rfl, World.ownsRow_nil .., Below.refl ..⟩
    case round =>
      obtain ⟨k, hk, rfl, rfl, hown, hb⟩ := hrel
      have HOWN := Lib.hid hown
      have HB := Lib.hid hb
      clear hown hb
      by_cases hlt : k < n
      · obtain ⟨b, off, rfl, hbx, hcx⟩ := HC.out (by omega)
        obtain ⟨c, hc⟩ : ∃ c, cs[k]? = some c := ⟨_, List.getElem?_eq_getElem (by have := HN.out; omega)⟩
        have hxc := hcx k _ (PG.out k c hlt hc)
        rw [← HB.out.cell (p := ⟨b, off + k, none⟩) hbx] at hxc
        obtain ⟨i1, i2, i3⟩ := SZ.out k c hc
        obtain ⟨x, hx⟩ : ∃ x, x = s.extract (lastOf cs k) c := ⟨_, rfl⟩
        obtain ⟨f, hf⟩ : ∃ f, f = lastOf cs k := ⟨_, rfl⟩
        rw [← hx] at i2 hxc
        rw [← hf] at i1 i2 ⊢
        have EC := Lib.hid (show (f : Int) + (x.size : Int) = (c : Int) from by omega)
        have hfb : f + x.size ≤ 2000 := by omega
        have EK := Lib.hid hc
        have EL := Lib.hid (show lastOf cs (k + 1) = c from by simp [lastOf, hc])
        have HN1 := Lib.hid (show k + 1 ≤ maxLen from by unfold maxLen; omega)
        have HN2 := Lib.hid (show (k + 1) * 8 ≤ 140737488355328 from by omega)
        clear hx hf hc hcx i1 i2 i3
        go_wp2_with (at_builtin; go_must (refine wpList_push (.int .i64 0) 8 HOWN.out Tryd.underlying22 infoInt rfl rfl rfl rfl HN1.out HN2.out HB.out.size ?_; intro v' w5 hown1 hbel1 _; have HO1 := Lib.hid hown1; have HB1 := Lib.hid (HB.out.trans hbel1); clear hown1 hbel1))
        go_roundw
        case rel => exact ⟨k + 1, by omega, by go_num, by rw [EL.out, EC.out], says_step EK.out (by rw [← EC.out]; exact HO1.out) HB1.out⟩
        case measure => simp [intOf]; omega
      · obtain rfl : k = n := by omega
        have hfull := HOWN.out
        rw [List.take_of_length_le (by have := HN.out; omega)] at hfull
        obtain ⟨up, rfl⟩ : ∃ up : Value, up = u4 := ⟨_, rfl⟩
        obtain ⟨wp, rfl⟩ : ∃ wp : World, wp = wr := ⟨_, rfl⟩
        have HP := Lib.hid hfull
        have HBP := Lib.hid (HB2.out.trans (HB.out.mono HB2.out.size))
        have HT := Lib.hid (OW2.out.below HB.out)
        clear hfull HOWN
        go_wp2_with fail
        refine (cuts_any s _ h1).mono ?_
        rintro _ w3 ⟨v3, rfl, hown3, hb3⟩
        have H1 := Lib.hid (HasInts.of_own hown3).2
        have H2 := Lib.hid (show HasInts w3 up (cutsI s.data.toList) from by
          have := (HasInts.of_own (ownsRow_later HP.out hb3)).2
          rw [HCS.out] at this
          exact this)
        have H3 := Lib.hid (HT.out.below hb3)
        have HB3 := Lib.hid (HBP.out.trans (hb3.mono HBP.out.size))
        clear hown3 hb3
        go_wp2_with fail
        refine (error_nil _ _).mono ?_
        rintro _ w4 ⟨rfl, rfl⟩
        go_wp2_with fail
        refine (ints_any _ _ _ _ _ H1.out H2.out).mono ?_
        rintro _ w5 ⟨rfl, d, rfl⟩
        go_wp2_with fail
        refine (pieces_any s _ h1).mono ?_
        rintro _ w6 ⟨v6, rfl, hown6, hb6⟩
        have H4 := Lib.hid (show HasStrs w6 v6 (piecesB s cs k) from by have := (HasStrs.of_own hown6).2; rw [← HCS.out, ← HN.out] at this; exact this)
        have H5 := Lib.hid ((H3.out.drewN d).below hb6)
        have HB4 := Lib.hid ((below_drewN HB3.out d).trans (hb6.mono (below_drewN HB3.out d).size))
        clear hown6 hb6
        go_wp2_with fail
        refine (error_nil _ _).mono ?_
        rintro _ w7 ⟨rfl, rfl⟩
        go_wp2_with fail
        refine (texts_any _ _ _ _ _ H4.out H5.out).mono ?_
        rintro _ w8 ⟨rfl, d2, rfl⟩
        go_wp2_with fail
        go_ret
        exact ⟨by simp, below_drewN HB4.out _⟩
  · go_enter Tryd.func3, Tryd.ntmps3
    go_wp2_with fail
    refine (cuts_long s _ (by omega)).mono ?_
    rintro _ w2 ⟨rfl, rfl⟩
    go_wp2_with fail
    refine (error_is 4 4 _ HG.out).mono ?_
    rintro _ w3 ⟨rfl, hb3⟩
    have HB3 := Lib.hid hb3
    clear hb3
    go_wp2_with fail
    refine (ints_any _ _ _ _ _ (HasInts.nil _) (HasInts.nil _)).mono ?_
    rintro _ w4 ⟨rfl, d, rfl⟩
    go_wp2_with fail
    refine (pieces_long s _ (by omega)).mono ?_
    rintro _ w5 ⟨rfl, rfl⟩
    go_wp2_with fail
    refine (error_is 4 4 _ (HG.out.below (below_drewN HB3.out d))).mono ?_
    rintro _ w6 ⟨rfl, hb6⟩
    have HB6 := Lib.hid ((below_drewN HB3.out d).trans (hb6.mono (below_drewN HB3.out d).size))
    clear hb6
    go_wp2_with fail
    refine (texts_any _ _ _ _ _ (HasStrs.nil _) (HasStrs.nil _)).mono ?_
    rintro _ w7 ⟨rfl, d2, rfl⟩
    go_wp2_with fail
    go_ret
    exact ⟨by simp, below_drewN HB6.out _⟩

end Go.Proofs.YtnkihdkcmhbhkaaDoor
