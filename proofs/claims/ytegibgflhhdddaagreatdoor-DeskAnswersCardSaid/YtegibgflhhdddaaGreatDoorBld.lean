/- A strings.Builder at some address: copyCheck, WriteString. -/
import Derived.Test.YtegibgflhhdddaaGreatDoorProg
import Derived.Test.YtegibgflhhdddaaGreatDoorBase
import Derived.Lib.Builder
import Derived.Lib.AppendStr
import Derived.Lib.UnsafeStr
import Derived.Lib.FrozenHead
import Derived.Laws.Externs
import Derived.RegionTactic
import Derived.ChangeAlike
import Derived.Deep.RegionLaw
namespace Go.Proofs.YtegibgflhhdddaaGreatDoor
open Go.RowKit
open Go.Lib (byteCells strCells strCells_length byteCells_length byteCells_append)

section
variable {P : Program}

theorem ownsRowF_base {w : World} {base base' : Nat} {e : TypeId} {size : Nat} {v : Value} {n : Nat} {xs : List Value} (h : w.ownsRowF base e size v n xs) (hb : base' ≤ base) : w.ownsRowF base' e size v n xs := by
  obtain ⟨h1, h2⟩ := h
  refine ⟨h1, ?_⟩
  rcases h2 with h2 | ⟨g, cap, cur, fz, rfl, hg, hc⟩
  · exact .inl h2
  · exact .inr ⟨g, cap, cur, fz, rfl, by omega, hc⟩

open Go.Lib in
theorem run_append_bytes (w : World) (base : Nat) (t u ty e : TypeId) (i : TypeInfo) (ht : P.underlying t = some (.slice e)) (hu : P.underlying u = some .string) (hi : P.info? e = some i) (hz : i.zero = some (.int .u8 0))
    (hsize : i.size = 1) (hby : i.bytes = 1)
    (v : Value) (n : Nat) (xs : List Value) (hown : w.ownsRowF base e 1 v n xs) (s : ByteArray)
    (h63 : n + s.size ≤ maxLen) (hbytes : n + s.size ≤ 140737488355328) (hbase : base ≤ w.heap.size) :
    ∃ v' w', (Builtin.append_ #[t, u] ty #[v, .string s]).run P w = .ok v' w' ∧ w'.ownsRowF base e 1 v' (n + s.size) (xs ++ strCells s) ∧ w.grownBy w' v.ownBlock ∧
      (v'.ownBlock = v.ownBlock ∨ ∀ k, v'.ownBlock = some k → w.heap.size ≤ k) := by
  rcases hown.2 with ⟨rfl, rfl⟩ | ⟨g, cap, cur, fz, rfl, hbg, hg, hfz, hnc, hcm, hcs, htake⟩
  · obtain ⟨v', w', h1, h2, h3, h4⟩ := run_append_own_string (P := P) w w.heap.size t u ty e i ht hu hi hz hsize hby (.slice none 0 0) 0 xs ⟨hown.1, .inl ⟨rfl, rfl⟩⟩ s h63 hbytes (Nat.le_refl _)
    have h5 := World.ownsRowF_of h2
    exact ⟨v', w', h1, ownsRowF_base h5 hbase, h3, .inr fun k hk => (h5.lt k hk).1⟩
  · have hsmall : n + s.size ≤ 9223372036854775807 := by simp only [maxLen] at h63; omega
    have hxl : xs.length = n := by simpa using hown.1
    have hlen : (xs ++ strCells s).length = (n + s.size) * 1 := by rw [List.length_append, hxl, strCells_length, Nat.mul_one]
    by_cases hroom : n + s.size ≤ cap
    · have hcs' : cur.size = cap := by simpa using hcs
      have hr := run_append_room_stringF (P := P) w t u ty e i ht hu hi hsize g n cap cur fz hg (by simpa using hfz) s hroom (by omega)
      refine ⟨_, _, hr, ⟨hlen, .inr ⟨g, cap, _, fz, rfl, hbg, setRow_heap w g cur _ e _ hg, by omega, hroom, hcm, ?_, ?_⟩⟩, ⟨rfl, rfl, rfl, by simp, fun k _ hk => setRow_other w g k _ (fun e => hk (by simp [Value.ownBlock, e]))⟩, .inl rfl⟩
      · simp only [List.size_toArray, List.length_append, List.length_take, List.length_drop, Array.length_toList, strCells_length]
        omega
      · have ht' : cur.toList.take n = xs := by simpa using htake
        rw [ht', ← hlen]
        exact List.take_left
    · have holds : ∀ j u, xs[j]? = some u → w.cell? ((⟨g, 0, none⟩ : Addr).add j) = some u := hown.cells (g := g) rfl
      have hr := run_append_grow_string (P := P) w t u ty e i (.int .u8 0) ht hu hi hz ⟨g, 0, none⟩ n cap xs (by rw [hsize]; simpa using hxl) holds s (by omega) (by omega) (by rw [hby]; exact growslice_fits (by omega) (by omega))
      have hge := grownCap_ge w (n + s.size) cap e
      have hcm2 : grownCap w (n + s.size) cap e ≤ maxLen := grownCap_le_maxLen w (n + s.size) cap e h63
      refine ⟨_, _, hr, ⟨hlen, .inr ⟨w.heap.size, _, _, (0, 0), rfl, hbase, heap_alloc_new w.drew _, Nat.zero_le _, hge, hcm2, ?_, ?_⟩⟩, ⟨rfl, rfl, rfl, by simp, fun k hk _ => Lib.alloc_old w.drew _ k hk⟩, .inr fun k hk => by simp [Value.ownBlock] at hk; omega⟩
      · have hz1 : (Value.int IntKind.u8 0).cells.size = 1 := rfl
        simp only [Array.size_append, List.size_toArray, size_zeroCells, hz1, hxl, strCells_length]
        omega
      · simp only [Array.toList_append, List.append_assoc]
        rw [← List.append_assoc, ← hlen]
        exact List.take_left

theorem wpList_append_bytes {w : World} {ops : Array Oper} {rest : List Oper} {o : Oper} {a : Act} {Q : Exit → Act → World → Prop} (hgd : o.guard = none) (sl x : Operand) (t u : TypeId)
    (ho : o.op = .call { callee := .builtin .append, args := #[sl, x], argTypes := #[t, u] })
    (base : Nat) (e : TypeId) (ht : P.underlying t = some (.slice e)) (hu : P.underlying u = some .string) (hi : (P.info? e).map (fun i => (i.zero, i.size, i.bytes)) = some (some (.int .u8 0), 1, 1))
    (v : Value) (n : Nat) (xs : List Value) (hs : a.eval sl = v) (hown : w.ownsRowF base e 1 v n xs) (s : ByteArray) (hx : a.eval x = .string s)
    (h63 : n + s.size ≤ maxLen) (hbytes : n + s.size ≤ 140737488355328) (hbase : base ≤ w.heap.size)
    (h : ∀ v' w', w'.ownsRowF base e 1 v' (n + s.size) (xs ++ strCells s) → w.grownBy w' v.ownBlock → (v'.ownBlock = v.ownBlock ∨ ∀ k, v'.ownBlock = some k → w.heap.size ≤ k) → wpList P ops Q rest (a.put o.dst v') w') : wpList P ops Q (o :: rest) a w := by
  refine wpList_plain hgd fun K hK => ?_
  obtain ⟨i, hi, hz, hsize, hby⟩ := info_parts hi
  obtain ⟨v', w', hr, h2, h3, h4⟩ := run_append_bytes (P := P) w base t u o.type e i ht hu hi hz hsize hby v n xs hown s h63 hbytes hbase
  unfold Oper.wp execOp
  simp only [ho, resolve, invoke, builtin, Sem.run_bind, Sem.run_pure, Result.andThen_ok, List.map_toArray, List.map_cons, List.map_nil, hs, hx, hr]
  exact hK _ _ (h v' w' h2 h3 h4)

end

theorem infoU8 : (Tryz.prog.info? 5).map (fun i => (i.zero, i.size, i.bytes)) = some (some (.int .u8 0), 1, 1) := by kernel_rfl
theorem infoBl : (Tryz.prog.info? 31).map (fun i => i.size) = some 2 := by kernel_rfl

/-- where the bytes lie -/
def bldRow (w : World) (b off : Nat) : Option Nat := match w.cell? ⟨b, off + 1, none⟩ with
  | some v => v.ownBlock
  | none => none

structure Bld (w : World) (T cells base b off : Nat) (l : List UInt8) : Prop where
  lo : b < base ∧ base ≤ w.heap.size
  addr : ∃ p, w.cell? ⟨b, off, none⟩ = some (.pointer p) ∧ (p = none ∨ p = some ⟨b, off, none⟩)
  row : ∃ v, w.cell? ⟨b, off + 1, none⟩ = some v ∧ w.ownsRowF base 5 1 v l.length (byteCells l)
  free : ∀ o, w.frozen? ⟨b, o, none⟩ = false
  shape : w.shape? b = some (T, cells)
  lies : liesAt Tryz.prog Tryz.prog.depth T (cells / Tryz.prog.cellsOf T) off 31 1 = true
  room : off + 1 < cells

/-- what a write leaves as it is -/
structure BldFrame (w w' : World) (base b off : Nat) : Prop where
  size : w.heap.size ≤ w'.heap.size
  below : ∀ B, B ≤ b → B ≤ base → Below B w w'
  blocks : ∀ x, x < w.heap.size → x ≠ b → bldRow w b off ≠ some x → w'.heap[x]? = w.heap[x]?
  cells : ∀ o, o ≠ off → o ≠ off + 1 → w'.cell? ⟨b, o, none⟩ = w.cell? ⟨b, o, none⟩
  frozen : ∀ o, w'.frozen? ⟨b, o, none⟩ = w.frozen? ⟨b, o, none⟩
  shape : w'.shape? b = w.shape? b
  row : bldRow w' b off = bldRow w b off ∨ ∀ k, bldRow w' b off = some k → w.heap.size ≤ k

theorem BldFrame.refl (w : World) (base b off : Nat) : BldFrame w w base b off :=
  ⟨Nat.le_refl _, fun _ _ _ => Below.refl _ _, fun _ _ _ _ => rfl, fun _ _ _ => rfl, fun _ => rfl, rfl, .inl rfl⟩

theorem BldFrame.trans {w1 w2 w3 : World} {base b off : Nat} (h : BldFrame w1 w2 base b off) (k : BldFrame w2 w3 base b off) : BldFrame w1 w3 base b off := by
  refine ⟨Nat.le_trans h.size k.size, fun B h1 h2 => (h.below B h1 h2).trans (k.below B h1 h2), fun x hx hb hr => ?_, fun o h1 h2 => (k.cells o h1 h2).trans (h.cells o h1 h2), fun o => (k.frozen o).trans (h.frozen o), k.shape.trans h.shape, ?_⟩
  · rw [k.blocks x (Nat.lt_of_lt_of_le hx h.size) hb ?_, h.blocks x hx hb hr]
    rcases h.row with e | e
    · rw [e]; exact hr
    · intro e'
      have := e x e'
      omega
  · rcases k.row with e | e
    · rcases h.row with e' | e'
      · exact .inl (e.trans e')
      · exact .inr fun j hj => e' j (by rw [← e]; exact hj)
    · exact .inr fun j hj => Nat.le_trans h.size (e j hj)

theorem Bld.addr_block {w : World} {T cells base b off : Nat} {l : List UInt8} (h : Bld w T cells base b off l) {v : Value} (hv : w.cell? ⟨b, off + 1, none⟩ = some v) : w.ownsRowF base 5 1 v l.length (byteCells l) ∧ (∀ k, v.ownBlock = some k → base ≤ k ∧ k < w.heap.size) ∧ bldRow w b off = v.ownBlock := by
  obtain ⟨v', h1, h2⟩ := h.row
  rw [h1] at hv
  cases hv
  exact ⟨h2, h2.lt, by simp [bldRow, h1]⟩

theorem shape_setCell (w : World) (a : Addr) (v : Value) (b : Nat) : (w.setCell a v).shape? b = w.shape? b := by
  unfold World.shape? World.setCell
  simp only [Array.getElem?_modify]
  by_cases h : a.block = b
  · rw [if_pos h]
    rcases w.heap[b]? with _ | o
    · rfl
    · cases o <;> simp
      split <;> simp
  · rw [if_neg h]

/-- the address is stored, or was -/
theorem Bld.used {w : World} {T cells base b off : Nat} {l : List UInt8} (h : Bld w T cells base b off l) :
    Bld (w.setCell ⟨b, off, none⟩ (.pointer (some ⟨b, off, none⟩))) T cells base b off l ∧ BldFrame w (w.setCell ⟨b, off, none⟩ (.pointer (some ⟨b, off, none⟩))) base b off := by
  obtain ⟨lo, ⟨p, h1, h1'⟩, ⟨v, h2, h3⟩, h4, h5, h6, h7⟩ := h
  have hg : w.grownBy (w.setCell ⟨b, off, none⟩ (.pointer (some ⟨b, off, none⟩))) (some b) :=
    ⟨rfl, rfl, rfl, by simp, fun k _ hk => heap_setCell_other w ⟨b, off, none⟩ k _ (fun e => hk (by simp [e]))⟩
  have hc1 : (w.setCell ⟨b, off, none⟩ (.pointer (some ⟨b, off, none⟩))).cell? ⟨b, off + 1, none⟩ = w.cell? ⟨b, off + 1, none⟩ := World.cell?_setCell_other _ _ _ _ (by simp)
  have hsh : (w.setCell ⟨b, off, none⟩ (.pointer (some ⟨b, off, none⟩))).shape? b = w.shape? b := shape_setCell _ _ _ _
  refine ⟨⟨⟨lo.1, Nat.le_trans lo.2 hg.size⟩, ⟨_, World.cell?_setCell_same _ _ _ h1, .inr rfl⟩, ⟨v, by rw [hc1]; exact h2, h3.kept hg (by
      rcases hv : v.ownBlock with _ | k
      · exact .inl rfl
      · right
        have := h3.lt k hv
        intro e
        cases e
        omega)⟩, fun o => by rw [World.frozen?_setCell]; exact h4 o, by rw [hsh]; exact h5, h6, h7⟩, ⟨hg.size, fun B hB _ => (Below.refl _ _).setCell (p := ⟨b, off, none⟩) hB _, fun x hx hb _ => hg.block x hx (by simp [hb]), fun o h1 h2 => World.cell?_setCell_other _ _ _ _ (by simp; try omega), fun o => World.frozen?_setCell _ _ _ _, hsh, .inl ?_⟩⟩
  simp [bldRow, hc1]

set_option maxHeartbeats 1000000 in
set_option maxRecDepth 100000 in
theorem bld_check (w : World) (T cells base b off : Nat) (l : List UInt8) (h : Bld w T cells base b off l) :
    Calls Tryz.prog 17 #[.pointer (some ⟨b, off, none⟩)] w fun e w' => e = .returned (.tuple #[]) ∧ Bld w' T cells base b off l ∧ BldFrame w w' base b off := by
  obtain ⟨j, hj, hjs⟩ := Option.map_eq_some_iff.1 infoBl
  obtain ⟨p, hp, hor⟩ := h.addr
  rcases hor with rfl | rfl
  · have HU := Lib.hid h.used
    have hsh := h.shape
    have hfz := h.free off
    have hro : off < cells := by have := h.room; omega
    have hl := h.lies
    clear h
    go_enter Tryz.func17, Tryz.ntmps17
    go_wp2
    rw [Lib.run_to_unsafe w ⟨b, off, none⟩ Tryz.underlying28 Tryz.underlying74 hj (by rw [hjs]; decide) hsh hro]
    simp only [Result.andThen]
    rw [Oper.upon_value]
    go_wp2
    rw [run_callFunc_extern Tryz.func34 (by kernel_rfl) (by kernel_rfl) (by kernel_rfl) (e := Extern.AbiNoEscape.same) (by kernel_rfl)]
    rw [Lib.run_noEscape]
    simp only [Result.andThen]
    rw [Oper.upon_value]
    go_wp2
    rw [Lib.run_from_unsafe w ⟨b, off, none⟩ Tryz.underlying74 Tryz.underlying28 hj hsh hl]
    simp only [Result.andThen]
    rw [Oper.upon_value]
    go_wp2
    go_end0
    exact ⟨rfl, HU.out⟩
  · have H := Lib.hid h
    clear h
    go_enter Tryz.func17, Tryz.ntmps17
    go_wp2
    rw [Lib.run_neq_ptr_same w _ Tryz.underlying28 hj]
    go_wp2
    go_end0
    exact ⟨rfl, H.out, BldFrame.refl _ _ _ _⟩

/-- behind the append and the store of the slice -/
theorem Bld.written {w w1 : World} {T cells base b off : Nat} {l : List UInt8} {s : ByteArray} {v v' : Value} (h : Bld w T cells base b off l) (hv : w.cell? ⟨b, off + 1, none⟩ = some v)
    (h1 : w1.ownsRowF base 5 1 v' (l.length + s.size) (byteCells l ++ strCells s)) (hg : w.grownBy w1 v.ownBlock) (hr : v'.ownBlock = v.ownBlock ∨ ∀ k, v'.ownBlock = some k → w.heap.size ≤ k) :
    Bld (w1.setCell ⟨b, off + 1, none⟩ v') T cells base b off (l ++ s.data.toList) ∧ BldFrame w (w1.setCell ⟨b, off + 1, none⟩ v') base b off := by
  obtain ⟨hown, hlt, hrow⟩ := h.addr_block hv
  have lo := h.lo
  have hbw : b < w.heap.size := by omega
  have hbv : some b ≠ v.ownBlock := fun e => by have := (hlt b e.symm).1; omega
  have hc : ∀ o, w1.cell? ⟨b, o, none⟩ = w.cell? ⟨b, o, none⟩ := fun o => World.cell?_of_block (a := ⟨b, o, none⟩) (hg.block b hbw hbv)
  have hf : ∀ o, w1.frozen? ⟨b, o, none⟩ = w.frozen? ⟨b, o, none⟩ := fun o => World.frozen?_of_block (a := ⟨b, o, none⟩) (hg.block b hbw hbv)
  have hsh1 : w1.shape? b = w.shape? b := by unfold World.shape?; rw [hg.block b hbw hbv]
  have hg2 : w1.grownBy (w1.setCell ⟨b, off + 1, none⟩ v') (some b) :=
    ⟨rfl, rfl, rfl, by simp, fun k _ hk => heap_setCell_other w1 ⟨b, off + 1, none⟩ k _ (fun e => hk (by simp [e]))⟩
  have hv'b : ∀ k, v'.ownBlock = some k → base ≤ k ∧ k < w1.heap.size := h1.lt
  have hsame : (w1.setCell ⟨b, off + 1, none⟩ v').cell? ⟨b, off + 1, none⟩ = some v' := World.cell?_setCell_same _ _ _ (by rw [hc]; exact hv)
  have hoth : ∀ o, o ≠ off + 1 → (w1.setCell ⟨b, off + 1, none⟩ v').cell? ⟨b, o, none⟩ = w.cell? ⟨b, o, none⟩ := fun o ho => by
    rw [World.cell?_setCell_other _ _ _ _ (by simp; try omega), hc]
  have hsh2 : (w1.setCell ⟨b, off + 1, none⟩ v').shape? b = w.shape? b := (shape_setCell _ _ _ _).trans hsh1
  have hfr2 : ∀ o, (w1.setCell ⟨b, off + 1, none⟩ v').frozen? ⟨b, o, none⟩ = w.frozen? ⟨b, o, none⟩ := fun o => (World.frozen?_setCell _ _ _ _).trans (hf o)
  obtain ⟨p, hp, hor⟩ := h.addr
  refine ⟨⟨⟨lo.1, Nat.le_trans lo.2 (Nat.le_trans hg.size hg2.size)⟩, ⟨p, by rw [hoth off (by omega)]; exact hp, hor⟩, ⟨v', hsame, ?_⟩, fun o => by rw [hfr2]; exact h.free o, by rw [hsh2]; exact h.shape, h.lies, h.room⟩,
    ⟨Nat.le_trans hg.size hg2.size, fun B hB hB2 => ?_, fun x hx hxb hxr => ?_, fun o _ ho => hoth o ho, hfr2, hsh2, ?_⟩⟩
  · have e : (l ++ s.data.toList).length = l.length + s.size := by simp
    rw [e, byteCells_append]
    exact h1.kept hg2 (by
      rcases hv2 : v'.ownBlock with _ | k
      · exact .inl rfl
      · right
        have := (hv'b k hv2).1
        intro e
        cases e
        omega)
  · have e1 : Below B w w1 := (Below.refl _ _).grown hg (by omega) (fun k hk => by have := (hlt k hk).1; omega)
    exact e1.setCell (p := ⟨b, off + 1, none⟩) hB _
  · rw [hg2.block x (Nat.lt_of_lt_of_le hx hg.size) (by simp [hxb]), hg.block x hx (by rw [← hrow]; exact fun e => hxr e.symm)]
  · rw [hrow]
    simp only [bldRow, hsame]
    exact hr

theorem Bld.still {w w1 : World} {T cells base b off : Nat} {l : List UInt8} {v : Value} (h : Bld w T cells base b off l) (hv : w.cell? ⟨b, off + 1, none⟩ = some v) (hg : w.grownBy w1 v.ownBlock) :
    w1.cell? ⟨b, off + 1, none⟩ = some v ∧ w1.frozen? ⟨b, off + 1, none⟩ = false := by
  obtain ⟨hown, hlt, hrow⟩ := h.addr_block hv
  have lo := h.lo
  have hblk := hg.block b (by omega) (fun e => by have := (hlt b e.symm).1; omega)
  exact ⟨(World.cell?_of_block (a := ⟨b, off + 1, none⟩) hblk).trans hv, (World.frozen?_of_block (a := ⟨b, off + 1, none⟩) hblk).trans (h.free _)⟩
theorem ownF_shape {w : World} {base : Nat} {e : TypeId} {size : Nat} {v : Value} {n : Nat} {xs : List Value} (h : w.ownsRowF base e size v n xs) : ∃ va m cap, v = .slice va m cap := by
  rcases h.2 with ⟨rfl, -⟩ | ⟨g', cap', cur, fz, rfl, -⟩
  · exact ⟨_, _, _, rfl⟩
  · exact ⟨_, _, _, rfl⟩

set_option maxHeartbeats 2000000 in
set_option maxRecDepth 100000 in
theorem bld_write (w : World) (T cells base b off : Nat) (l : List UInt8) (s : ByteArray) (h : Bld w T cells base b off l) (hlen : l.length + s.size ≤ 140737488355328) :
    Calls Tryz.prog 8 #[.pointer (some ⟨b, off, none⟩), .string s] w fun e w' => e = .returned (.tuple #[.int .i64 s.size, .nilIface]) ∧ Bld w' T cells base b off (l ++ s.data.toList) ∧ BldFrame w w' base b off := by
  have H := Lib.hid h
  have HN1 := Lib.hid (show l.length + s.size ≤ maxLen by unfold maxLen; omega)
  have HN2 := Lib.hid hlen
  have hss : s.size ≤ 9223372036854775807 := by omega
  clear h hlen
  go_enter Tryz.func8, Tryz.ntmps8
  go_wp2_with fail
  refine (bld_check _ T cells base b off l H.out).mono ?_
  rintro _ w1 ⟨rfl, h1, hf1⟩
  have H1 := Lib.hid h1
  have HF1 := Lib.hid hf1
  obtain ⟨v, c1, hown⟩ := h1.row
  have HOWN := Lib.hid hown
  have HB := Lib.hid h1.lo.2
  have HC1 := Lib.hid c1
  clear h1 hf1 hown
  go_wp2_with (at_builtin; go_must (refine wpList_append_bytes rfl _ _ 29 9 rfl base 5 Tryz.underlying29 Tryz.underlying9 infoU8 _ _ _ rfl HOWN.out s rfl HN1.out HN2.out HB.out ?_; intro v' w2 hown2 hgrow hrow; have HW := Lib.hid (H1.out.written HC1.out hown2 hgrow hrow); have hc2 := (H1.out.still HC1.out hgrow).1; have hf2 := (H1.out.still HC1.out hgrow).2; obtain ⟨av, nv, cv, rfl⟩ := ownF_shape hown2; clear hown2 hgrow hrow))
  go_ret2
  exact ⟨rfl, HW.out.1, HF1.out.trans HW.out.2⟩

end Go.Proofs.YtegibgflhhdddaaGreatDoor
