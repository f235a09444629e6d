/- A strings.Builder at some address: String. -/
import Derived.Test.YtegibgflhhdddaaGreatDoorBld
namespace Go.Proofs.YtegibgflhhdddaaGreatDoor
open Go.RowKit
open Go.Lib (byteCells strCells strCells_length byteCells_length byteCells_append)

/-- what String leaves: the bytes frozen -/
theorem Bld.froze {w : World} {T cells base b off g cap : Nat} {l : List UInt8} (h : Bld w T cells base b off l) (hc : w.cell? ⟨b, off + 1, none⟩ = some (.slice (some ⟨g, 0, none⟩) l.length cap)) :
    Bld (w.freeze ⟨g, 0, none⟩ l.length) T cells base b off l ∧ BldFrame w (w.freeze ⟨g, 0, none⟩ l.length) base b off := by
  obtain ⟨hown, hlt, hrow⟩ := h.addr_block hc
  have lo := h.lo
  have hgb := hlt g rfl
  have hblk : ∀ x, x ≠ g → (w.freeze ⟨g, 0, none⟩ l.length).heap[x]? = w.heap[x]? := by
    intro x hx
    unfold World.freeze
    split
    · rfl
    · simp only [Array.getElem?_modify]
      rw [if_neg (by simpa using fun e => hx e.symm)]
  have hsz : (w.freeze ⟨g, 0, none⟩ l.length).heap.size = w.heap.size := by
    unfold World.freeze
    split
    · rfl
    · simp
  have hcb : ∀ o, (w.freeze ⟨g, 0, none⟩ l.length).cell? ⟨b, o, none⟩ = w.cell? ⟨b, o, none⟩ := fun o => World.cell?_of_block (a := ⟨b, o, none⟩) (hblk b (by omega))
  have hfb : ∀ o, (w.freeze ⟨g, 0, none⟩ l.length).frozen? ⟨b, o, none⟩ = w.frozen? ⟨b, o, none⟩ := fun o => World.frozen?_of_block (a := ⟨b, o, none⟩) (hblk b (by omega))
  have hsb : (w.freeze ⟨g, 0, none⟩ l.length).shape? b = w.shape? b := by unfold World.shape?; rw [hblk b (by omega)]
  have hown2 : (w.freeze ⟨g, 0, none⟩ l.length).ownsRowF base 5 1 (.slice (some ⟨g, 0, none⟩) l.length cap) l.length (byteCells l) := by
    refine ⟨hown.1, ?_⟩
    rcases hown.2 with ⟨hv, _⟩ | ⟨g', cap', cur, fz, hv, hbg, hg, hfz, rest⟩
    · cases hv
    · injection hv with ha _ hcap
      injection ha with ha
      injection ha with hgg _ _
      subst hgg
      subst hcap
      unfold World.freeze
      split
      · exact .inr ⟨g, cap, cur, fz, rfl, hbg, hg, hfz, rest⟩
      · obtain ⟨lo, hi⟩ := fz
        refine .inr ⟨g, _, cur, (if lo == hi then (0, 0 + l.length) else (min lo 0, max hi (0 + l.length))), rfl, hbg, ?_, ?_, rest⟩
        · simp [Array.getElem?_modify, hg]
        · simp only at hfz
          split <;> simp <;> omega
  obtain ⟨p, hp, hor⟩ := h.addr
  refine ⟨⟨⟨lo.1, by rw [hsz]; exact lo.2⟩, ⟨p, by rw [hcb]; exact hp, hor⟩, ⟨_, by rw [hcb]; exact hc, hown2⟩, fun o => by rw [hfb]; exact h.free o, by rw [hsb]; exact h.shape, h.lies, h.room⟩,
    ⟨by rw [hsz]; exact Nat.le_refl _, fun B _ hB => Lib.below_freeze (Below.refl _ _) (p := ⟨g, 0, none⟩) (by show B ≤ g; omega) _, fun x hx hxb hr => hblk x (fun e => hr (by rw [hrow, e]; rfl)), fun o _ _ => hcb o, hfb, hsb, .inl ?_⟩⟩
  simp [bldRow, hcb]

theorem Bld.drew {w : World} {T cells base b off : Nat} {l : List UInt8} (h : Bld w T cells base b off l) : Bld w.drew T cells base b off l := ⟨h.lo, h.addr, h.row, h.free, h.shape, h.lies, h.room⟩
theorem BldFrame.drew {w : World} {base b off : Nat} : BldFrame w w.drew base b off :=
  ⟨Nat.le_refl _, fun _ _ _ => (Below.refl _ _).drew, fun _ _ _ _ => rfl, fun _ _ _ => rfl, fun _ => rfl, rfl, .inl rfl⟩

theorem cellsU8 : Tryz.prog.cellsOf 5 = 1 := by kernel_rfl

set_option maxHeartbeats 2000000 in
set_option maxRecDepth 100000 in
theorem bld_str1 (w : World) (T cells base b off : Nat) (l : List UInt8) (h : Bld w T cells base b off l) (h0 : l ≠ []) :
    Calls Tryz.prog 12 #[.pointer (some ⟨b, off, none⟩)] w fun e w' => e = .returned (.string ⟨l.toArray⟩) ∧ Bld w' T cells base b off l ∧ BldFrame w w' base b off := by
  obtain ⟨v, hc, hown⟩ := h.row
  have hl0 : l.length ≠ 0 := by simpa using h0
  have hown' := hown
  rcases hown.2 with ⟨_, hz⟩ | ⟨g, cap, cur, fz, rfl, hbg, hg, hfz, hnc, hcm, hcs, htake⟩
  · exact absurd hz hl0
  have HF := Lib.hid (h.drew.froze (g := g) (cap := cap) hc)
  have c1 : w.drew.cell? ⟨b, off + 1, none⟩ = some (.slice (some ⟨g, 0, none⟩) l.length cap) := hc
  have hSD : (Builtin.unsafeSliceData_ #[29] 64 #[.slice (some ⟨g, 0, none⟩) l.length cap]).run Tryz.prog w.drew = .ok (.pointer (some ⟨g, 0, none⟩)) w.drew :=
    Lib.run_unsafeSliceData_row _ _ _ _ _ _ (by omega)
  have hUS : (Builtin.unsafeString_ #[64, 3] 9 #[.pointer (some ⟨g, 0, none⟩), .int .i64 l.length]).run Tryz.prog w.drew = .ok (.string ⟨l.toArray⟩) (w.drew.freeze ⟨g, 0, none⟩ l.length) := by
    refine Lib.run_unsafeString_row w.drew 64 3 9 5 Tryz.underlying64 cellsU8 g cur.size (by have hg' : w.drew.heap[g]? = some (.cells cur 5 fz) := hg; simp [World.shape?, hg']) l h0 (by omega) (by unfold maxLen at hcm; omega) ?_
    intro j x hx
    have := hown.cells (g := g) rfl j (.int .u8 x.toNat) (by simp [Lib.byteCells, hx])
    exact this
  clear hown hown' hfz htake hg hcs hc
  go_enter Tryz.func12, Tryz.ntmps12
  go_wp2
  go_region_law (fail)
  all_goals
    go_wp2
    go_ret
    exact ⟨rfl, HF.out.1, BldFrame.drew.trans HF.out.2⟩

theorem unsafeString_none (W : World) (q : Option Addr) : (Builtin.unsafeString_ #[64, 3] 9 #[.pointer q, .int .i64 0]).run Tryz.prog W = .ok (.string .empty) W :=
  Lib.run_unsafeString_none W _ _ _ q

set_option maxHeartbeats 2000000 in
set_option maxRecDepth 100000 in
theorem bld_str0 (w : World) (T cells base b off : Nat) (h : Bld w T cells base b off []) :
    Calls Tryz.prog 12 #[.pointer (some ⟨b, off, none⟩)] w fun e w' => e = .returned (.string ByteArray.empty) ∧ Bld w' T cells base b off [] ∧ BldFrame w w' base b off := by
  obtain ⟨v, hc, hown⟩ := h.row
  have HD := Lib.hid h.drew
  have hUS := unsafeString_none
  rcases hown.2 with ⟨rfl, hz⟩ | ⟨g, cap, cur, fz, rfl, hbg, hg, hfz, hnc, hcm, hcs, htake⟩
  · have c1 : w.drew.cell? ⟨b, off + 1, none⟩ = some (.slice none 0 0) := hc
    have hSD : (Builtin.unsafeSliceData_ #[29] 64 #[.slice none 0 0]).run Tryz.prog w.drew = .ok (.pointer none) w.drew := rfl
    clear hown hz hc h
    go_enter Tryz.func12, Tryz.ntmps12
    go_wp2
    go_region_law (fail)
    all_goals
      go_wp2
      go_ret
      exact ⟨rfl, HD.out, BldFrame.drew⟩
  · have c1 : w.drew.cell? ⟨b, off + 1, none⟩ = some (.slice (some ⟨g, 0, none⟩) 0 cap) := hc
    by_cases hc0 : cap = 0
    · subst hc0
      have hSD : (Builtin.unsafeSliceData_ #[29] 64 #[.slice (some ⟨g, 0, none⟩) 0 0]).run Tryz.prog w.drew = .ok (.pointer (some ⟨w.drew.heap.size, 0, none⟩)) (w.drew.alloc (.view ⟨g, 0, none⟩ 5)) :=
        Lib.run_unsafeSliceData_zero w.drew _ _ 5 Tryz.underlying64 ⟨g, 0, none⟩ 0 (5, cur.size) (by have hg' : w.drew.heap[g]? = some (.cells cur 5 fz) := hg; simp [World.shape?, hg'])
      have hbl : Below w.heap.size w.drew (w.drew.alloc (.view ⟨g, 0, none⟩ 5)) := (Below.refl w.heap.size w.drew).alloc (show w.heap.size ≤ w.drew.heap.size from Nat.le_refl _) _
      have hbw : b < w.heap.size := by have := h.lo; omega
      have hcb : ∀ o, (w.drew.alloc (.view ⟨g, 0, none⟩ 5)).cell? ⟨b, o, none⟩ = w.cell? ⟨b, o, none⟩ := fun o => hbl.cell (p := ⟨b, o, none⟩) hbw
      have c2 : (w.drew.alloc (.view ⟨g, 0, none⟩ 5)).cell? ⟨b, off + 1, none⟩ = some (.slice (some ⟨g, 0, none⟩) 0 0) := (hcb _).trans hc
      have c3 : (w.alloc (.view ⟨g, 0, none⟩ 5)).drew.cell? ⟨b, off + 1, none⟩ = some (.slice (some ⟨g, 0, none⟩) 0 0) := c2
      have hlt := hown.lt
      have hend : Bld (w.drew.alloc (.view ⟨g, 0, none⟩ 5)) T cells base b off [] ∧ BldFrame w (w.drew.alloc (.view ⟨g, 0, none⟩ 5)) base b off := by
        have hsb : (w.drew.alloc (.view ⟨g, 0, none⟩ 5)).shape? b = w.shape? b := by unfold World.shape?; rw [hbl.block b hbw]; rfl
        have hfb : ∀ o, (w.drew.alloc (.view ⟨g, 0, none⟩ 5)).frozen? ⟨b, o, none⟩ = w.frozen? ⟨b, o, none⟩ := fun o => hbl.frozen (p := ⟨b, o, none⟩) hbw
        obtain ⟨p, hp, hor⟩ := h.addr
        have hsz := hbl.size
        refine ⟨⟨⟨h.lo.1, Nat.le_trans h.lo.2 hsz⟩, ⟨p, by rw [hcb]; exact hp, hor⟩, ⟨_, c2, hown.1, ?_⟩, fun o => by rw [hfb]; exact h.free o, by rw [hsb]; exact h.shape, h.lies, h.room⟩,
          ⟨hsz, fun B _ hB => ((Below.refl _ _).drew).alloc (by have := h.lo; show B ≤ w.heap.size; omega) _, fun x hx _ _ => hbl.block x hx, fun o _ _ => hcb o, hfb, hsb, .inl (by simp [bldRow, hcb])⟩⟩
        exact .inr ⟨g, 0, cur, fz, rfl, hbg, by rw [hbl.block g (hlt g rfl).2]; exact hg, hfz, hnc, hcm, hcs, htake⟩
      have HEND := Lib.hid hend
      clear hown hc h hfz htake hg hcs hnc hlt hend hcb hbl
      go_enter Tryz.func12, Tryz.ntmps12
      go_wp2
      go_region_law (fail)
      all_goals
        go_wp2
        go_ret
        exact ⟨rfl, HEND.out⟩
    · have hSD : (Builtin.unsafeSliceData_ #[29] 64 #[.slice (some ⟨g, 0, none⟩) 0 cap]).run Tryz.prog w.drew = .ok (.pointer (some ⟨g, 0, none⟩)) w.drew :=
        Lib.run_unsafeSliceData_row _ _ _ _ _ _ hc0
      clear hc0 hown hc h hfz htake hg hcs hnc
      go_enter Tryz.func12, Tryz.ntmps12
      go_wp2
      go_region_law (fail)
      all_goals
        go_wp2
        go_ret
        exact ⟨rfl, HD.out, BldFrame.drew⟩

theorem bld_str (w : World) (T cells base b off : Nat) (l : List UInt8) (h : Bld w T cells base b off l) :
    Calls Tryz.prog 12 #[.pointer (some ⟨b, off, none⟩)] w fun e w' => e = .returned (.string ⟨l.toArray⟩) ∧ Bld w' T cells base b off l ∧ BldFrame w w' base b off := by
  cases l with
  | nil => exact bld_str0 w T cells base b off h
  | cons x r => exact bld_str1 w T cells base b off (x :: r) h (by simp)

end Go.Proofs.YtegibgflhhdddaaGreatDoor
