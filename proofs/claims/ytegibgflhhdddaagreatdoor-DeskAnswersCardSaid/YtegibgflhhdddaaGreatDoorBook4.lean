/- The book's methods: New, Write, Waits, Text, Values. -/
import Derived.Test.YtegibgflhhdddaaGreatDoorBook3
import Derived.Deep.AppendLies
import Derived.Deep.DeepCutAuto
import Derived.Deep.CutBlock
namespace Go.Proofs.YtegibgflhhdddaaGreatDoor
open Go.RowKit

theorem withinB (a b c : Int) (w : World) :
    Calls Tryz.prog 54 #[.int .i64 a, .int .i64 b, .int .i64 c] w fun e w' => e = .returned (.bool (decide (b ≤ a ∧ a ≤ c))) ∧ w = w' := by
  by_cases h1 : b ≤ a
  · have q1 : decide (b ≤ a) = true := decide_eq_true h1
    by_cases h2 : a ≤ c
    · have q2 : decide (a ≤ c) = true := decide_eq_true h2
      go_enter Tryz.func54, Tryz.ntmps54
      go_wp2
      go_ret
      exact ⟨by simp [h1, h2], rfl⟩
    · have q2 : decide (a ≤ c) = false := decide_eq_false h2
      go_enter Tryz.func54, Tryz.ntmps54
      go_wp2
      go_ret
      exact ⟨by simp, rfl⟩
  · have q1 : decide (b ≤ a) = false := decide_eq_false h1
    go_enter Tryz.func54, Tryz.ntmps54
    go_wp2
    go_ret
    exact ⟨by simp, rfl⟩
theorem within_yes {a b c : Int} (w : World) (h : b ≤ a ∧ a ≤ c) : Calls Tryz.prog 54 #[.int .i64 a, .int .i64 b, .int .i64 c] w fun e w' => e = .returned (.bool true) ∧ w = w' :=
  (withinB a b c w).mono fun e w' hh => by rw [decide_eq_true h] at hh; exact hh
theorem within_not {a b c : Int} (w : World) (h : ¬ (b ≤ a ∧ a ≤ c)) : Calls Tryz.prog 54 #[.int .i64 a, .int .i64 b, .int .i64 c] w fun e w' => e = .returned (.bool false) ∧ w = w' :=
  (withinB a b c w).mono fun e w' hh => by rw [decide_eq_false h] at hh; exact hh

theorem infoPut : (Tryz.prog.info? 94).map (fun i => (i.zero, i.size, i.bytes)) = some (some (.agg #[.int .i64 0, .int .i64 0, .int .i64 0]), 3, 24) := by kernel_rfl

theorem liesBook : liesAt Tryz.prog Tryz.prog.depth 51 (12 / Tryz.prog.cellsOf 51) 9 31 1 = true := by kernel_rfl

def newCells : Array Value := #[.int .i64 0, .int .i64 0, .int .i64 0, .int .i64 0, .int .i64 0, .int .i64 0, .int .i64 0, .int .i64 0, .slice none 0 0, .pointer none, .slice none 0 0, .int .i64 0]
set_option maxRecDepth 100000 in
theorem new_at {w : World} {g : Nat} (hh : w.heap[g]? = some (.cells newCells 51 (0, 0))) : BookIs w g Bk.new ∧ ∀ x, BkOwn w g x → x = g := by
  have hg : g < w.heap.size := (Array.getElem?_eq_some_iff.1 hh).1
  have hc : ∀ o v, newCells[o]? = some v → w.cell? ⟨g, o, none⟩ = some v := fun o v h => by simp [World.cell?, hh, h]
  have hf : ∀ o, w.frozen? ⟨g, o, none⟩ = false := fun o => by simp [World.frozen?, hh]
  have c8 := hc 8 (.slice none 0 0) rfl
  have c10 := hc 10 (.slice none 0 0) rfl
  refine ⟨⟨rfl, fun i n hi => ?_, ⟨.slice none 0 0, c8, World.ownsRow_nil ..⟩, ⟨⟨by omega, by omega⟩, ⟨none, hc 9 _ rfl, .inl rfl⟩, ⟨.slice none 0 0, c10, World.ownsRowF_of (World.ownsRow_nil ..)⟩, hf, ?_, liesBook, by decide⟩, hc 11 _ rfl⟩, fun x hx => ?_⟩
  · have hi8 : i < 8 := by have := (List.getElem?_eq_some_iff.1 hi).1; simpa [Bk.new] using this
    have hn : n = 0 := by
      have h0 : (List.replicate 8 0)[i]? = some n := hi
      rw [List.getElem?_replicate, if_pos hi8] at h0
      exact (Option.some.inj h0).symm
    subst hn
    refine hc i _ ?_
    rcases i with _ | _ | _ | _ | _ | _ | _ | _ | i <;> first | rfl | omega
  · simp [World.shape?, hh, newCells]
  · rcases hx with rfl | hx | hx
    · rfl
    · simp [grpRow, c8, Value.ownBlock] at hx
    · simp [bldRow, c10, Value.ownBlock] at hx

set_option maxRecDepth 100000 in
theorem new_walk (w : World) :
    Calls Tryz.prog 6 #[] w fun e w' => e = .returned (.pointer (some ⟨w.heap.size, 0, none⟩)) ∧ (BookIs w' w.heap.size Bk.new ∧ ∀ x, BkOwn w' w.heap.size x → x = w.heap.size) ∧ Below w.heap.size w w' := by
  go_enter Tryz.func6, Tryz.ntmps6
  go_wp2_with fail
  go_ret
  exact ⟨rfl, new_at (heap_alloc_new w _), (Below.refl _ _).alloc (Nat.le_refl _) _⟩

theorem grown_blk {w w1 : World} {o : Obj} {v : Value} {base : Nat} {e : TypeId} {size n g : Nat} {xs : List Value} (hown : w.ownsRow base e size v n xs) (hgb : g < base) (hg : g < w.heap.size) (h : (w.alloc o).grownBy w1 v.ownBlock) : w1.heap[g]? = w.heap[g]? := by
  rw [h.block g (by simp; omega) (fun e => by have := (hown.lt g e.symm).1; omega)]
  exact Below.heap_alloc w o g hg

theorem ints_two {w : World} (p x : Nat) (t : TypeId) : HasInts (w.alloc (.cells #[.int .i64 (p : Nat), .int .i64 (x : Nat)] t)) (.slice (some ⟨w.heap.size, 0, none⟩) 2 2) [(p : Int), (x : Int)] := by
  refine ⟨_, 2, rfl, Nat.le_refl _, by unfold maxLen; omega, fun _ => ⟨w.heap.size, 0, rfl, by simp, fun j u hj => ?_⟩⟩
  have hh := heap_alloc_new w (.cells #[.int .i64 (p : Nat), .int .i64 (x : Nat)] t)
  rcases j with _ | _ | j
  · simp at hj; subst hj; unfold World.cell?; simp only; rw [hh]; rfl
  · simp at hj; subst hj; unfold World.cell?; simp only; rw [hh]; rfl
  · simp at hj

theorem wW_words (p x : Nat) : (⟨#[119]⟩ : ByteArray).data.toList ++ wordsOf [(p : Int), (x : Int)] = wW p x := by
  simp [wordsOf, wW]

set_option maxRecDepth 100000 in
set_option maxHeartbeats 2000000 in
theorem bwrite_ok (w : World) (B g : Nat) (b : Bk) (p x : Nat) (hb : BookIs w g b) (hB : B ≤ g) (hp : Pow B w) (hok : b.ok) (hp7 : p ≤ 7) (hx : x ≤ 1000) (hm : b.T.length < 60) :
    Calls Tryz.prog 36 #[.pointer (some ⟨g, 0, none⟩), .int .i64 (p : Nat), .int .i64 (x : Nat)] w fun e w' => e = .returned .nilIface ∧ BookIs w' g (b.put p x) ∧ BkFrame w w' g := by
  obtain ⟨i0, hi0, hz0, hz1, hz2⟩ := info_parts infoPut
  have HB := Lib.hid hb
  have HP := Lib.hid hp
  obtain ⟨v, hv, hown⟩ := hb.grp
  obtain ⟨n, hn⟩ : ∃ n, n = b.G.length := ⟨_, rfl⟩
  obtain ⟨va, cap, rfl⟩ : ∃ va cap, v = .slice va n cap := by
    rcases hown.2 with ⟨rfl, h⟩ | ⟨g', cap', cur, rfl, -⟩
    · exact ⟨none, 0, by rw [hn, h]⟩
    · exact ⟨_, _, by rw [hn]⟩
  rw [← hn] at hown
  have hn60 : n < 60 := by have := hok.waits; omega
  have HN := Lib.hid hn
  have HOWN := Lib.hid hown
  have HV := Lib.hid hv
  clear hown hn
  have hmany := hb.many
  have hfree := hb.free 11
  have hglt := hb.lt
  have hfree8 := hb.free 8
  have hq : ((b.T.length : Int) == 60) = false := beq_eq_false_iff_ne.2 (by omega)
  have hwl := hok.waits
  clear hb hp
  go_enter Tryz.func36, Tryz.ntmps36
  go_wp2_with fail
  refine (within_yes _ (by omega)).mono ?_
  rintro _ w1 ⟨rfl, rfl⟩
  go_wp2_with fail
  refine (within_yes _ (by omega)).mono ?_
  rintro _ w1 ⟨rfl, rfl⟩
  go_upto_region 5 with (fail)
  go_wp2_with (at_builtin; refine wpList_append_lies _ (by rfl) _ _ _ (by rfl) (g + 1) 94 i0 _ 3 24 Tryz.underlying49 hi0 hz0 hz1 hz2 rfl (by omega) (.slice va n cap) n (putsV b.G) (by rfl) (by exact HOWN.out.alloc _) ⟨w.heap.size, 0, none⟩ 1 1 [.int .i64 0, .int .i64 (p : Nat), .int .i64 (x : Nat)] (by rfl) (by rfl) (World.news_of_block (cs := #[.int .i64 0, .int .i64 (p : Nat), .int .i64 (x : Nat)]) (t := 94) (fr := (0, 0)) (heap_alloc_new w _)) (by simp [Value.oneCell']) (by omega) (by unfold maxLen; omega) (by omega) (by simp; omega) (w.heap.size + 1) (by simp) ?_; intro r cap' w1 hown1 hgrow hat hlt1; have hgb := grown_blk HOWN.out (by omega) hglt hgrow; have hw1 := (World.cell?_of_block (a := ⟨g, 8, none⟩) hgb).trans HV.out; have hf1 := (World.frozen?_of_block (a := ⟨g, 8, none⟩) hgb).trans hfree8; clear hgb)
  have hal := (Below.refl w.heap.size w).alloc (Nat.le_refl _) (.cells #[.int .i64 0, .int .i64 (p : Nat), .int .i64 (x : Nat)] 94)
  have hbA := HB.out.later hal
  have hFA := HB.out.frame hal
  have hgr := hbA.grouped (v := .slice va n cap) (v' := .slice (some ⟨r, 0, none⟩) (n + 1) cap') ((hal.cell (p := ⟨g, 8, none⟩) hglt).trans HV.out) p x hgrow (by rw [← HN.out]; exact hown1) (by
    rcases hat with e | e
    · exact .inl (by rw [e]; rfl)
    · exact .inr fun k hk => by simp only [Value.ownBlock, Option.some.injEq] at hk; simp; omega)
  obtain ⟨w2, hw2⟩ : ∃ w2, w2 = w1.setCell ⟨g, 8, none⟩ (.slice (some ⟨r, 0, none⟩) (n + 1) cap') := ⟨_, rfl⟩
  have hz1w : w1.heap.size = w2.heap.size := by rw [hw2]; simp
  rw [← hw2] at hgr ⊢
  rw [hz1w]
  clear hz1w
  have hz2 := hgr.2.size
  have hal2 := (Below.refl w2.heap.size w2).alloc (Nat.le_refl _) (.cells #[.int .i64 (p : Nat), .int .i64 (x : Nat)] 3)
  have hb2 := hgr.1.later hal2
  have hF2 := hFA.trans (hgr.2.trans (hgr.1.frame hal2))
  have HP2 := Lib.hid (HP.out.on (hF2.below B hB))
  have HB2 : Hid (BookIs (w2.alloc (.cells #[.int .i64 (p : Nat), .int .i64 (x : Nat)] 3)) g ⟨b.B, b.G ++ [(p, x)], b.T⟩) := Lib.hid hb2
  have HF2 := Lib.hid hF2
  clear hw2 hgrow hown1 hat hlt1 hw1 hf1 hal hbA hFA hgr hal2 hb2 hF2
  refine (down_walk _ B g ⟨b.B, b.G ++ [(p, x)], b.T⟩ ⟨#[119]⟩ _ [(p : Int), (x : Int)] HB2.out hB HP2.out (ints_two p x _) (by simp) (by intro y hy; simp at hy; omega) (by decide) (Nat.le_trans (show b.text.length ≤ 2460 from Bk.text_le hok) (by decide)) (by simp only; omega)).mono ?_
  rintro _ w5 ⟨rfl, hb5, hf5⟩
  rw [wW_words] at hb5
  have HB5 : Hid (BookIs w5 g (b.put p x)) := Lib.hid hb5
  have HF5 := Lib.hid (HF2.out.trans hf5)
  clear hb5 hf5
  go_wp2_with fail
  go_ret
  exact ⟨rfl, HB5.out, HF5.out⟩

end Go.Proofs.YtegibgflhhdddaaGreatDoor
