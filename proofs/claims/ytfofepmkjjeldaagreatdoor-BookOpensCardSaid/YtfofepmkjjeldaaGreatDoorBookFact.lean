/- 'bookFact' says true. -/
import Derived.Test.YtfofepmkjjeldaaGreatDoorBookTold
import Derived.Test.YtfofepmkjjeldaaGreatDoorOpen
namespace Go.Proofs.YtfofepmkjjeldaaGreatDoor
open Go.RowKit

/-- a row of integers lies beside a book -/
theorem int_far {w : World} {g y : Nat} {B : List Nat} {G : List (Nat × Nat)} {txt : List UInt8} {m : Nat} {cs : Array Value} {fr : Nat × Nat} (h : BookAt w g B G txt m) (hy : w.heap[y]? = some (.cells cs 3 fr)) : y < w.heap.size ∧ ¬ BkOwn w g y :=
  ⟨(Array.getElem?_eq_some_iff.1 hy).1, fun ho => by
    obtain ⟨cs', t', fr', hh, ht⟩ := h.own_cells ho
    rw [hy] at hh
    simp only [Option.some.injEq, Obj.cells.injEq] at hh
    obtain ⟨-, rfl, -⟩ := hh
    rcases ht with ht | ht | ht <;> exact absurd ht (by decide)⟩

def bk1 : Bk := Bk.new.write 1 2
def bk2 : Bk := bk1.done
theorem bk1_B : bk1.B = [0, 0, 0, 0, 0, 0, 0, 0] := by decide +kernel
theorem bk2_B : bk2.B = [0, 2, 0, 0, 0, 0, 0, 0] := by decide +kernel
theorem bk1_n : bk1.doneN = 1 ∧ bk1.doneE = 0 ∧ Bk.new.writeE 1 2 = 0 := by decide +kernel
theorem bk2_text : bk2.text.length > 6 ∧ bk2.text.take 6 = [119, 32, 49, 32, 50, 32] := by decide +kernel

set_option maxRecDepth 100000 in
set_option maxHeartbeats 4000000 in
theorem fact_walk (W : World) (hP : Pow W.heap.size W) :
    Calls Tryz.prog 10 #[] W fun e w' => e = .returned (.bool true) ∧ Below W.heap.size W w' := by
  have HP := Lib.hid hP
  clear hP
  go_enter Tryz.func10, Tryz.ntmps10
  go_wp2_with fail
  refine (new_walk _).mono ?_
  rintro _ w1 ⟨rfl, ⟨hbk1, -⟩, hb1⟩
  obtain ⟨g, hg⟩ : ∃ g, g = W.heap.size := ⟨_, rfl⟩
  rw [← hg] at hbk1 ⊢
  have hWg : W.heap.size ≤ g := Nat.le_of_eq hg.symm
  have HBK1 := Lib.hid hbk1
  have HB1 := Lib.hid hb1
  clear hbk1 hb1 hg
  go_wp2_with fail
  refine (bwrite_walk w1 W.heap.size g Bk.new 1 2 HBK1.out hWg (HP.out.on HB1.out) Bk.new_ok).mono ?_
  rintro _ w2 ⟨rfl, hbk2, hf2⟩
  rw [show errV ((Bk.new.writeE 1 2 : Nat) : Int) = .nilIface by rw [bk1_n.2.2]; rfl]
  have HBK2 := Lib.hid (show BookIs w2 g bk1 from hbk2)
  have HB2 := Lib.hid (HB1.out.trans (hf2.below _ hWg))
  have hok1 : bk1.ok := Bk.new_ok.write 1 2
  clear hbk2 hf2
  go_wp2_with fail
  refine (values_walk w2 g bk1 HBK2.out).mono ?_
  rintro _ w3 ⟨⟨vl, rfl, ho3⟩, hb3⟩
  have hl3 := (HasInts.of_own ho3).2
  obtain ⟨y, cap, cur, fr, rfl, hy⟩ : ∃ y cap cur fr, vl = .slice (some ⟨y, 0, none⟩) 8 cap ∧ w3.heap[y]? = some (.cells cur 3 fr) := by
    rcases ho3.2 with ⟨-, h0⟩ | ⟨y, cap, cur, rfl, -, hy, -⟩
    · exact absurd h0 (by decide)
    · exact ⟨y, cap, cur, _, rfl, hy⟩
  have hc3 : w3.cell? ⟨y, 1, none⟩ = some (.int .i64 0) := by
    obtain ⟨b', o', e', -, hc⟩ := hl3.liesT (j := 1) (x := 0) (by rw [bk1_B]; rfl)
    cases e'
    exact hc
  have HY := Lib.hid hy
  have HC3 := Lib.hid hc3
  have HBK3 := Lib.hid (HBK2.out.later hb3)
  have HB3 := Lib.hid (HB2.out.trans (hb3.mono HB2.out.size))
  clear ho3 hb3 hl3 hy hc3
  go_wp2_with fail
  refine (bdo_walk w3 W.heap.size g bk1 HBK3.out hWg (HP.out.on HB3.out) hok1).mono ?_
  rintro _ w4 ⟨rfl, hbk4, hf4⟩
  rw [show errV ((bk1.doneE : Nat) : Int) = .nilIface by rw [bk1_n.2.1]; rfl, bk1_n.1]
  have HBK4 := Lib.hid (show BookIs w4 g bk2 from hbk4)
  have HB4 := Lib.hid (HB3.out.trans (hf4.below _ hWg))
  have hf := int_far HBK3.out HY.out
  have HY4 := Lib.hid ((hf4.blocks y hf.1 hf.2).trans HY.out)
  have HC4 := Lib.hid ((World.cell?_of_block (a := ⟨y, 1, none⟩) (hf4.blocks y hf.1 hf.2)).trans HC3.out)
  clear hbk4 hf4 hf
  go_wp2_with fail
  refine (values_walk w4 g bk2 HBK4.out).mono ?_
  rintro _ w5 ⟨⟨vm, rfl, ho5⟩, hb5⟩
  have hl5 := (HasInts.of_own ho5).2
  obtain ⟨ym, capm, rfl⟩ : ∃ ym capm, vm = .slice (some ⟨ym, 0, none⟩) 8 capm := by
    rcases ho5.2 with ⟨-, h0⟩ | ⟨y, cap, cur, rfl, -, hy, -⟩
    · exact absurd h0 (by decide)
    · exact ⟨y, cap, rfl⟩
  have hm1 : w5.cell? ⟨ym, 1, none⟩ = some (.int .i64 2) := by
    obtain ⟨b', o', e', -, hc⟩ := hl5.liesT (j := 1) (x := 2) (by rw [bk2_B]; rfl)
    cases e'
    exact hc
  have hc5 := (hb5.cell (p := ⟨y, 1, none⟩) (Array.getElem?_eq_some_iff.1 HY4.out).1).trans HC4.out
  have HBK5 := Lib.hid (HBK4.out.later hb5)
  have HB5 := Lib.hid (HB4.out.trans (hb5.mono HB4.out.size))
  clear ho5 hl5 hb5
  go_wp2_with fail
  refine (text_walk w5 g bk2 HBK5.out).mono ?_
  rintro _ w6 ⟨rfl, hbk6, hf6⟩
  obtain ⟨tx, htx⟩ : ∃ tx : ByteArray, tx = ⟨bk2.text.toArray⟩ := ⟨_, rfl⟩
  rw [← htx]
  have hts : tx.size = bk2.text.length := by rw [htx]; exact List.size_toArray
  have h6 : (6 : Int) < (tx.size : Int) := by have := bk2_text.1; omega
  have h6' : (6 : Int) ≤ (tx.size : Int) := by omega
  have hx6 : (tx.extract 0 6).toList = [119, 32, 49, 32, 50, 32] := by
    rw [ByteArray.toList_eq, ByteArray.data_extract, Array.toList_extract, htx]
    exact bk2_text.2
  have HTX := Lib.hid htx
  have HBK6 := Lib.hid hbk6
  have HB6 := Lib.hid (HB5.out.trans (hf6.below _ hWg))
  clear hbk6 hf6 htx hts
  go_wp2_with fail
  refine (text_walk w6 g bk2 HBK6.out).mono ?_
  rintro _ w7 ⟨rfl, hbk7, hf7⟩
  have HB7 := Lib.hid (HB6.out.trans (hf7.below _ hWg))
  rw [← HTX.out]
  clear hbk7 hf7
  go_wp2_with fail
  go_ret
  exact ⟨rfl, HB7.out⟩

end Go.Proofs.YtfofepmkjjeldaaGreatDoor
