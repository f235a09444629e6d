/- A byte written into a builder. -/
import Derived.Test.YtegibgflhhdddaaGreatDoorBook1
namespace Go.Proofs.YtegibgflhhdddaaGreatDoor
open Go.RowKit
open Go.Lib (byteCells strCells strCells_length byteCells_length byteCells_append)

section
variable {P : Program}

theorem run_append_byte (w : World) (base : Nat) (t ty e : TypeId) (i : TypeInfo) (ht : P.underlying t = some (.slice e)) (hi : P.info? e = some i) (hz : i.zero = some (.int .u8 0)) (hsize : i.size = 1) (hby : i.bytes = 1)
    (v : Value) (n : Nat) (xs : List Value) (hown : w.ownsRowF base e 1 v n xs) (a : Addr) (c : Nat) (x : Value) (hx1 : x.oneCell' = true) (hx : w.cell? a = some x)
    (h63 : n + 1 ≤ maxLen) (hbytes : n + 1 ≤ 140737488355328) (hbase : base ≤ w.heap.size) :
    ∃ v' w', (Builtin.append_ #[t, t] ty #[v, .slice (some a) 1 c]).run P w = .ok v' w' ∧ w'.ownsRowF base e 1 v' (n + 1) (xs ++ [x]) ∧ w.grownBy w' v.ownBlock ∧
      (v'.ownBlock = v.ownBlock ∨ ∀ k, v'.ownBlock = some k → w.heap.size ≤ k) := by
  have hadd : a.add 0 = a := by unfold Addr.add; simp
  have hnews : ∀ j u, ([x] : List Value)[j]? = some u → w.cell? (a.add j) = some u := fun j u hj => by
    have hj0 : j = 0 := by have := (List.getElem?_eq_some_iff.1 hj).1; simpa using this
    subst hj0
    rw [hadd, hx]
    simpa using hj
  have hz1 : (Value.int IntKind.u8 0).cells.size = 1 := rfl
  rcases hown.2 with ⟨rfl, rfl⟩ | ⟨g, cap, cur, fz, rfl, hbg, hg, hfz, hnc, hcm, hcs, htake⟩
  · have hxs : xs = [] := by
      have := hown.1
      simpa using this
    subst hxs
    have hr := run_append_nil (P := P) w t ty e i (.int .u8 0) ht hi hz a 1 c [x] (by rw [hsize]; rfl) hnews (by decide) (by decide) (by rw [hby]; decide)
    have hge := grownCap_ge w 1 0 e
    have hcm2 : grownCap w 1 0 e ≤ maxLen := grownCap_le_maxLen w 1 0 e (by unfold maxLen; omega)
    refine ⟨_, _, hr, ⟨by simp, .inr ⟨w.heap.size, _, _, (0, 0), rfl, hbase, heap_alloc_new w.drew _, Nat.zero_le _, hge, hcm2, ?_, ?_⟩⟩, ⟨rfl, rfl, rfl, by simp, fun k hk _ => Lib.alloc_old w.drew _ k hk⟩, .inr fun k hk => by simp [Value.ownBlock] at hk; omega⟩
    · simp only [Array.size_append, List.size_toArray, size_zeroCells, hz1, List.length_cons, List.length_nil]
      omega
    · simp
  · have hsmall : n + 1 ≤ 9223372036854775807 := by simp only [maxLen] at h63; omega
    have hxl : xs.length = n := by simpa using hown.1
    have hlen : (xs ++ [x]).length = (n + 1) * 1 := by rw [List.length_append, hxl]; simp
    by_cases hroom : n + 1 ≤ cap
    · have hcs' : cur.size = cap := by simpa using hcs
      have hf := run_firstCells_some (P := P) w 1 1 a 1 c [x] rfl (by simpa using hnews)
      have hst := run_storeCells_atF P g n e fz [x] 0 cur w hg (by simpa using hfz) (by simp; omega) (by simpa using hx1)
      simp only [Nat.add_zero, List.length_cons, List.length_nil, Nat.zero_add] at hst
      have hr : (Builtin.append_ #[t, t] ty #[.slice (some ⟨g, 0, none⟩) n cap, .slice (some a) 1 c]).run P w =
          .ok (.slice (some ⟨g, 0, none⟩) (n + 1) cap) (w.setRow g (cur.toList.take n ++ [x] ++ cur.toList.drop (n + 1)).toArray) := by
        simp [Builtin.append_, run_underlying ht, sizeOf, typeInfo, hi, hsize, Builtin.lenOf, hroom, hf, Addr.add_lit] at hst ⊢
        simp [hst]
      refine ⟨_, _, hr, ⟨hlen, .inr ⟨g, cap, _, fz, rfl, hbg, setRow_heap w g cur _ e _ hg, by omega, hroom, hcm, ?_, ?_⟩⟩, ⟨rfl, rfl, rfl, by simp, fun k _ hk => setRow_other w g k _ (fun e => hk (by simp [Value.ownBlock, e]))⟩, .inl rfl⟩
      · simp only [List.size_toArray, List.length_append, List.length_take, List.length_drop, Array.length_toList, List.length_cons, List.length_nil]
        omega
      · have ht' : cur.toList.take n = xs := by simpa using htake
        rw [ht', ← hlen]
        exact List.take_left
    · have holds : ∀ j u, xs[j]? = some u → w.cell? ((⟨g, 0, none⟩ : Addr).add j) = some u := hown.cells (g := g) rfl
      have hr := run_append_grow (P := P) w t ty e i (.int .u8 0) ht hi hz ⟨g, 0, none⟩ n cap xs (by rw [hsize]; simpa using hxl) holds a 1 c [x] (by rw [hsize]; rfl) hnews (by omega) (by omega) (by rw [hby]; exact growslice_fits (by omega) (by omega))
      have hge := grownCap_ge w (n + 1) cap e
      have hcm2 : grownCap w (n + 1) cap e ≤ maxLen := grownCap_le_maxLen w (n + 1) cap e h63
      refine ⟨_, _, hr, ⟨hlen, .inr ⟨w.heap.size, _, _, (0, 0), rfl, hbase, heap_alloc_new w.drew _, Nat.zero_le _, hge, hcm2, ?_, ?_⟩⟩, ⟨rfl, rfl, rfl, by simp, fun k hk _ => Lib.alloc_old w.drew _ k hk⟩, .inr fun k hk => by simp [Value.ownBlock] at hk; omega⟩
      · simp only [Array.size_append, List.size_toArray, size_zeroCells, hz1, hxl, List.length_cons, List.length_nil]
        omega
      · simp only [Array.toList_append]
        rw [← hlen]
        exact List.take_left

theorem wpList_append_byte {w : World} {ops : Array Oper} {rest : List Oper} {o : Oper} {ac : Act} {Q : Exit → Act → World → Prop} (hgd : o.guard = none) (sl x : Operand) (t : TypeId)
    (ho : o.op = .call { callee := .builtin .append, args := #[sl, x], argTypes := #[t, t] })
    (base : Nat) (e : TypeId) (ht : P.underlying t = some (.slice e)) (hi : (P.info? e).map (fun i => (i.zero, i.size, i.bytes)) = some (some (.int .u8 0), 1, 1))
    (v : Value) (n : Nat) (xs : List Value) (hs : ac.eval sl = v) (hown : w.ownsRowF base e 1 v n xs) (a : Addr) (c : Nat) (y : Value) (hx : ac.eval x = .slice (some a) 1 c) (hy1 : y.oneCell' = true) (hy : w.cell? a = some y)
    (h63 : n + 1 ≤ maxLen) (hbytes : n + 1 ≤ 140737488355328) (hbase : base ≤ w.heap.size)
    (h : ∀ v' w', w'.ownsRowF base e 1 v' (n + 1) (xs ++ [y]) → w.grownBy w' v.ownBlock → (v'.ownBlock = v.ownBlock ∨ ∀ k, v'.ownBlock = some k → w.heap.size ≤ k) → wpList P ops Q rest (ac.put o.dst v') w') : wpList P ops Q (o :: rest) ac w := by
  refine wpList_plain hgd fun K hK => ?_
  obtain ⟨i, hi, hz, hsize, hby⟩ := info_parts hi
  obtain ⟨v', w', hr, h2, h3, h4⟩ := run_append_byte (P := P) w base t o.type e i ht hi hz hsize hby v n xs hown a c y hy1 hy h63 hbytes hbase
  unfold Oper.wp execOp
  simp only [ho, resolve, invoke, builtin, Sem.run_bind, Sem.run_pure, Result.andThen_ok, List.map_toArray, List.map_cons, List.map_nil, hs, hx, hr]
  exact hK _ _ (h v' w' h2 h3 h4)

end

theorem Bld.alloc {w : World} {T cells base b off : Nat} {l : List UInt8} (h : Bld w T cells base b off l) (o : Obj) : Bld (w.alloc o) T cells base b off l ∧ BldFrame w (w.alloc o) base b off := by
  have lo := h.lo
  have hk : ∀ k, k < w.heap.size → (w.alloc o).heap[k]? = w.heap[k]? := fun k hk => Below.heap_alloc _ _ _ hk
  obtain ⟨v, h1, h2⟩ := h.row
  have h3 := h.addr_block h1
  have hr := h.block (w' := w.alloc o) (by simp) (hk b (by omega)) (fun k hk' => hk k (h3.2.1 k (by rw [← h3.2.2]; exact hk')).2)
  refine ⟨hr.1, ⟨by simp, fun B hB _ => (Below.refl _ _).alloc (by omega) _, fun x hx _ _ => hk x hx, fun o' _ _ => World.cell?_of_block (a := ⟨b, o', none⟩) (hk b (by omega)), fun o' => World.frozen?_of_block (a := ⟨b, o', none⟩) (hk b (by omega)), shape_of_block (hk b (by omega)), .inl hr.2⟩⟩

set_option maxHeartbeats 2000000 in
set_option maxRecDepth 100000 in
theorem bld_byte (w : World) (T cells base b off : Nat) (l : List UInt8) (c : UInt8) (h : Bld w T cells base b off l) (hlen : l.length + 1 ≤ 140737488355328) :
    Calls Tryz.prog 11 #[.pointer (some ⟨b, off, none⟩), .int .u8 (c.toNat : Int)] w fun e w' => e = .returned .nilIface ∧ Bld w' T cells base b off (l ++ [c]) ∧ BldFrame w w' base b off := by
  have H := Lib.hid h
  have HN1 := Lib.hid (show l.length + 1 ≤ maxLen by unfold maxLen; omega)
  have HN2 := Lib.hid hlen
  clear h hlen
  go_enter Tryz.func11, Tryz.ntmps11
  go_wp2_with fail
  refine (bld_check _ T cells base b off l H.out).mono ?_
  rintro _ w1 ⟨rfl, h1, hf1⟩
  have H1 := Lib.hid h1
  have HF1 := Lib.hid hf1
  obtain ⟨v, c1, hown⟩ := h1.row
  have HA := Lib.hid (h1.alloc (.cells #[.int .u8 (c.toNat : Int)] 5))
  have c2 : (w1.alloc (.cells #[.int .u8 (c.toNat : Int)] 5)).cell? ⟨b, off + 1, none⟩ = some v := (World.cell?_of_block (a := ⟨b, off + 1, none⟩) (Below.heap_alloc _ _ _ (show b < w1.heap.size by have := h1.lo; omega))).trans c1
  obtain ⟨hownA, -, -⟩ := HA.out.1.addr_block c2
  have HOWN := Lib.hid hownA
  have HB := Lib.hid HA.out.1.lo.2
  have HC1 := Lib.hid c2
  have hnew : (w1.alloc (.cells #[.int .u8 (c.toNat : Int)] 5)).cell? ⟨w1.heap.size, 0, none⟩ = some (.int .u8 (c.toNat : Int)) := by
    unfold World.cell?
    simp only
    rw [heap_alloc_new]
    rfl
  have HNEW := Lib.hid hnew
  clear h1 hf1 hown hownA c2 hnew
  go_wp2_with (at_builtin; go_must (refine wpList_append_byte rfl _ _ 29 rfl base 5 Tryz.underlying29 infoU8 _ _ _ rfl HOWN.out ⟨w1.heap.size, 0, none⟩ 1 (.int .u8 (c.toNat : Int)) rfl rfl HNEW.out HN1.out HN2.out HB.out ?_; intro v' w2 hown2 hgrow hrow; have HW := Lib.hid (HA.out.1.written (s := ⟨#[c]⟩) HC1.out hown2 hgrow hrow); have hc2 := (HA.out.1.still HC1.out hgrow).1; have hf2 := (HA.out.1.still HC1.out hgrow).2; obtain ⟨av, nv, cv, rfl⟩ := ownF_shape hown2; clear hown2 hgrow hrow))
  go_ret
  exact ⟨rfl, HW.out.1, (HF1.out.trans HA.out.2).trans HW.out.2⟩

end Go.Proofs.YtegibgflhhdddaaGreatDoor
