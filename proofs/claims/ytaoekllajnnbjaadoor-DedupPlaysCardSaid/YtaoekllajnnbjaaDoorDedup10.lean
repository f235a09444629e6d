/- The reference's store: Put. -/
import Derived.Test.YtaoekllajnnbjaaDoorDedup9
import Derived.StillTailTactics
namespace Go.Proofs.YtaoekllajnnbjaaDoor
open Go.RowKit

def RowS (w : World) (base : Nat) (v : Value) (L : List ByteArray) : Prop := w.ownsRow base 9 1 v L.length (strsV L) ∧ (L = [] → v = .slice none 0 0)
def RowI (w : World) (base : Nat) (v : Value) (L : List Int) : Prop := w.ownsRow base 3 1 v L.length (ints L) ∧ (L = [] → v = .slice none 0 0)

inductive RefPut (L : List ByteArray) (N : List Int) (t : ByteArray) : List ByteArray → List Int → Int → Bool → Int → Prop
  | long : 64 < t.size → RefPut L N t L N 0 false 4
  | had (i : Nat) (k : Int) : t.size ≤ 64 → L[i]? = some t → N[i]? = some k → 0 < k → RefPut L N t L (N.set i (k + 1)) i false 0
  | full : t.size ≤ 64 → (∀ i, ¬ LiveAt L N t i) → 40 ≤ L.length → RefPut L N t L N 0 false 4
  | new : t.size ≤ 64 → (∀ i, ¬ LiveAt L N t i) → L.length < 40 → RefPut L N t (L ++ [t]) (N ++ [1]) L.length true 0

theorem results_row4 {fn : Func} {p a b c : Tmp} {ty : TypeId} (h : fn.results = #[.cell p ty, .tmp a, .tmp b, .tmp c]) {tmps : Array Value} {w : World} {g : Nat} {x : Value} {P : Program}
    (hp : tmps.getD p undef = .pointer (some ⟨g, 0, none⟩)) (hl : (loadVar ty ⟨g, 0, none⟩).run P w = .ok x w) :
    (results fn tmps).run P w = .ok (.tuple #[x, tmps.getD a undef, tmps.getD b undef, tmps.getD c undef]) w := by
  have hp' : tmps[p]?.getD undef = .pointer (some ⟨g, 0, none⟩) := by simpa using hp
  simp [results, h, hp', asAddr, hl]
theorem load_st {w : World} {g : Nat} {v1 v2 : Value} (h0 : w.cell? ⟨g, 0, none⟩ = some v1) (h1 : w.cell? ⟨g, 1, none⟩ = some v2) : (loadVar 27 ⟨g, 0, none⟩).run Tryd.prog w = .ok (.agg #[v1, v2]) w := by
  have hl : (loadCells ⟨g, 0, none⟩ [v1, v2].length).run Tryd.prog w = .ok [v1, v2].toArray w :=
    run_loadCells_list (P := Tryd.prog) w ⟨g, 0, none⟩ [v1, v2] (fun j v hv => by
      have hadd : (⟨g, 0, none⟩ : Addr).add j = ⟨g, j, none⟩ := by unfold Addr.add; split <;> simp_all
      rw [hadd]
      match j, hv with
      | 0, hv => simp at hv; rw [h0, hv]
      | 1, hv => simp at hv; rw [h1, hv])
  have hi : (Tryd.prog.info? 27).map (·.size) = some 2 := by kernel_rfl
  cases hq : Tryd.prog.info? 27 with
  | none => simp [hq] at hi
  | some i =>
    have hs : i.size = 2 := by simpa [hq] using hi
    have hagg : (isAgg 27).run Tryd.prog w = .ok true w := by
      unfold isAgg
      rw [Sem.run_bind, run_underlying Tryd.underlying27 w]
      rfl
    simp only [List.length_cons, List.length_nil, Nat.zero_add, Nat.reduceAdd] at hl
    simp [loadVar, Sem.run_bind, hagg, sizeOf, typeInfo, hq, hs, hl]

theorem st_put {w : World} {g : Nat} {u0 u1 : Value} (h0 : w.cell? ⟨g, 0, none⟩ = some u0) (h1 : w.cell? ⟨g, 1, none⟩ = some u1) (v1 v2 : Value) :
    ((w.setCell ⟨g, 0, none⟩ v1).setCell ⟨g, 1, none⟩ v2).cell? ⟨g, 0, none⟩ = some v1 ∧ ((w.setCell ⟨g, 0, none⟩ v1).setCell ⟨g, 1, none⟩ v2).cell? ⟨g, 1, none⟩ = some v2 := by
  refine ⟨by rw [World.cell?_setCell_other _ _ _ _ (by simp)]; exact World.cell?_setCell_same _ _ _ h0, World.cell?_setCell_same (u := u1) _ _ _ (by rw [World.cell?_setCell_other _ _ _ _ (by simp)]; exact h1)⟩
theorem strs_oneCell' (l : List ByteArray) : ∀ u ∈ strsV l, u.oneCell' = true := by
  intro u hu
  obtain ⟨x, -, rfl⟩ := List.mem_map.1 hu
  rfl

set_option maxRecDepth 100000 in
set_option maxHeartbeats 4000000 in
theorem putref_walk (v1 v2 : Value) (L : List ByteArray) (N : List Int) (t : ByteArray) (w : World) (h1 : HasStrs w v1 L) (h2 : HasInts w v2 N) (e1 : L = [] → v1 = .slice none 0 0 ∧ v2 = .slice none 0 0) (hlen : N.length = L.length) (h40 : L.length ≤ 40) (hsmall : ∀ k ∈ N, k ≤ 1000000)
    (ht0 : t.size ≤ 9223372036854775807) :
    Calls Tryd.prog 9 #[.agg #[v1, v2], .string t] w fun e w' => (∃ v1' v2' L' N' n fresh c, e = .returned (.tuple #[.agg #[v1', v2'], .int .i64 n, .bool fresh, .int .i64 c]) ∧ RefPut L N t L' N' n fresh c ∧
      (v1' = v1 ∧ L' = L ∨ RowS w' w.heap.size v1' L') ∧ (v2' = v2 ∧ N' = N ∨ RowI w' w.heap.size v2' N')) ∧ Below w.heap.size w w' := by
  obtain ⟨a1, c1, rfl⟩ := h1.shape
  obtain ⟨a2, c2, rfl⟩ := h2.shape
  obtain ⟨n, hn⟩ : ∃ n, n = L.length := ⟨_, rfl⟩
  rw [hlen] at h2 e1 ⊢
  rw [← hn] at h1 h2 e1 h40 ⊢
  have HN := Lib.hid hn
  have HM := Lib.hid (hlen.trans hn.symm)
  have H1 := Lib.hid h1
  have H2 := Lib.hid h2
  have E1 := Lib.hid e1
  have HSM := Lib.hid hsmall
  clear h1 h2 hlen hn e1 hsmall
  go_enter Tryd.func9, Tryd.ntmps9
  by_cases hlong : 64 < t.size
  · have q1 : decide ((64 : Int) < (t.size : Int)) = true := decide_eq_true (by omega)
    go_wp2_with fail
    (try simp only [Exit.inBlock, Exit.then])
    refine bodyPost_ret (results_row4 (x := .agg #[.slice a1 n c1, .slice a2 n c2]) rfl rfl (load_st (by simp) (by simp))) rfl ?_
    exact ⟨⟨_, _, L, N, 0, false, 4, rfl, .long hlong, .inl ⟨rfl, rfl⟩, .inl ⟨rfl, rfl⟩⟩, ((Below.refl _ _).alloc (Nat.le_refl _) _).alloc (by simp) _⟩
  · have q1 : decide ((64 : Int) < (t.size : Int)) = false := decide_eq_false (by omega)
    have HBX := Lib.hid (((Below.refl w.heap.size w).alloc (Nat.le_refl _) (.cells #[.slice a1 n c1, .slice a2 n c2] 27)).alloc (by simp) (.cells #[.slice none 0 0, .slice none 0 0] 27))
    obtain ⟨wb, hwb⟩ : ∃ wb, wb = (w.alloc (.cells #[.slice a1 n c1, .slice a2 n c2] 27)).alloc (.cells #[.slice none 0 0, .slice none 0 0] 27) := ⟨_, rfl⟩
    have hz : wb.heap.size = w.heap.size + 2 := by rw [hwb]; simp
    have g0 : wb.cell? ⟨w.heap.size, 0, none⟩ = some (.slice a1 n c1) := by rw [hwb]; simp
    have g1 : wb.cell? ⟨w.heap.size, 1, none⟩ = some (.slice a2 n c2) := by rw [hwb]; simp
    have g2 : wb.cell? ⟨w.heap.size + 1, 0, none⟩ = some (.slice none 0 0) := by rw [hwb]; simp
    have g3 : wb.cell? ⟨w.heap.size + 1, 1, none⟩ = some (.slice none 0 0) := by rw [hwb]; simp
    have f0 : ∀ o, wb.frozen? ⟨w.heap.size, o, none⟩ = false := by intro o; rw [hwb]; simp
    have f1 : ∀ o, wb.frozen? ⟨w.heap.size + 1, o, none⟩ = false := by intro o; rw [hwb]; simp
    go_wp2_with fail
    rw [← hwb] at HBX ⊢
    refine (find_walk _ _ L N t wb (H1.out.below HBX.out) (H2.out.below HBX.out) (by rw [HM.out, HN.out]) (by rw [← HN.out]; exact h40)).mono ?_
    rintro _ w2 ⟨⟨r, rfl, hr⟩, hb2⟩
    have hz2 := hb2.size
    have G0 : w2.cell? ⟨w.heap.size, 0, none⟩ = some (.slice a1 n c1) := by rw [hb2.cell (p := ⟨w.heap.size, 0, none⟩) (by simp only; omega)]; exact g0
    have G1 : w2.cell? ⟨w.heap.size, 1, none⟩ = some (.slice a2 n c2) := by rw [hb2.cell (p := ⟨w.heap.size, 1, none⟩) (by simp only; omega)]; exact g1
    have G2 : w2.cell? ⟨w.heap.size + 1, 0, none⟩ = some (.slice none 0 0) := by rw [hb2.cell (p := ⟨w.heap.size + 1, 0, none⟩) (by simp only; omega)]; exact g2
    have G3 : w2.cell? ⟨w.heap.size + 1, 1, none⟩ = some (.slice none 0 0) := by rw [hb2.cell (p := ⟨w.heap.size + 1, 1, none⟩) (by simp only; omega)]; exact g3
    have F0 : w2.frozen? ⟨w.heap.size, 0, none⟩ = false := by rw [hb2.frozen (p := ⟨w.heap.size, 0, none⟩) (by simp only; omega)]; exact f0 0
    have F1 : w2.frozen? ⟨w.heap.size, 1, none⟩ = false := by rw [hb2.frozen (p := ⟨w.heap.size, 1, none⟩) (by simp only; omega)]; exact f0 1
    have F2 : w2.frozen? ⟨w.heap.size + 1, 0, none⟩ = false := by rw [hb2.frozen (p := ⟨w.heap.size + 1, 0, none⟩) (by simp only; omega)]; exact f1 0
    have F3 : w2.frozen? ⟨w.heap.size + 1, 1, none⟩ = false := by rw [hb2.frozen (p := ⟨w.heap.size + 1, 1, none⟩) (by simp only; omega)]; exact f1 1
    have HB2 := Lib.hid (HBX.out.trans (hb2.mono (by omega)))
    clear g0 g1 g2 g3 f0 f1 hb2 hwb
    rcases hr with ⟨rfl, hno⟩ | ⟨i, rfl, hi⟩
    · have HNO := Lib.hid hno
      clear hno
      by_cases hfull : 40 ≤ n
      · have q2 : decide ((40 : Int) ≤ (n : Int)) = true := decide_eq_true (by omega)
        go_wp2_with fail
        (try simp only [Exit.inBlock, Exit.then])
        have HSP := Lib.hid (st_put G2 G3 (.slice a1 n c1) (.slice a2 n c2))
        refine bodyPost_ret (results_row4 (x := .agg #[.slice a1 n c1, .slice a2 n c2]) rfl rfl (load_st HSP.out.1 HSP.out.2)) rfl ?_
        exact ⟨⟨_, _, L, N, 0, false, 4, rfl, .full (by omega) HNO.out (by rw [← HN.out]; exact hfull), .inl ⟨rfl, rfl⟩, .inl ⟨rfl, rfl⟩⟩, (HB2.out.setCell (p := ⟨w.heap.size + 1, 0, none⟩) (by simp only; omega) _).setCell (p := ⟨w.heap.size + 1, 1, none⟩) (by simp only; omega) _⟩
      · have q2 : decide ((40 : Int) ≤ (n : Int)) = false := decide_eq_false (by omega)
        have HLT0 := Lib.hid (show w.heap.size < w2.heap.size by omega)
        have HLT1 := Lib.hid (show w.heap.size + 1 < w2.heap.size by omega)
        by_cases h0 : n = 0
        · have H0 := Lib.hid h0
          obtain rfl : L = [] := List.length_eq_zero_iff.1 (by rw [← HN.out, H0.out])
          obtain ⟨ea, eb⟩ := E1.out rfl
          simp only [Value.slice.injEq] at ea eb
          obtain ⟨rfl, rfl, rfl⟩ := ea
          obtain ⟨rfl, -, rfl⟩ := eb
          have HLEN := Lib.hid (show ([] : List ByteArray).length = 0 from rfl)
          have happ := append_nilStrs
          have HOWN := Lib.hid (World.ownsRow_nil w2 w2.heap.size 9 1)
          have HZ := Lib.hid (show 0 + 1 ≤ maxLen by unfold maxLen; omega)
          have hNN : [] = N := Eq.symm <| List.length_eq_zero_iff.1 HM.out
          clear h0
          subst hNN
          go_upto_region 11 with fail
          go_upto_region 12 with (at_builtin; go_must (refine wpList_push (.string ByteArray.empty) 16 HOWN.out Tryd.underlying22 infoS0 rfl rfl (u := .string t) rfl rfl HZ.out (by omega) (Nat.le_refl _) ?_; intro v' w5 hown1 hbel1 _; have hb5z := hbel1.size; have HO5 := Lib.hid (show w5.ownsRow w2.heap.size 9 1 v' (1) (strsV (([] : List ByteArray) ++ [t])) from by (simpa [strsV] using hown1)); (obtain ⟨gr, cr, ev, -⟩ := own_some HO5.out (by omega)); subst ev; have HB5 := Lib.hid hbel1; have G5a : w5.cell? ⟨w.heap.size, 0, none⟩ = some (.slice none 0 0) := (HB5.out.cell (p := ⟨w.heap.size, 0, none⟩) HLT0.out).trans G0; have G5b : w5.cell? ⟨w.heap.size, 1, none⟩ = some (.slice none 0 0) := (HB5.out.cell (p := ⟨w.heap.size, 1, none⟩) HLT0.out).trans G1; have G5c : w5.cell? ⟨w.heap.size + 1, 0, none⟩ = some (.slice none 0 0) := (HB5.out.cell (p := ⟨w.heap.size + 1, 0, none⟩) HLT1.out).trans G2; have G5d : w5.cell? ⟨w.heap.size + 1, 1, none⟩ = some (.slice none 0 0) := (HB5.out.cell (p := ⟨w.heap.size + 1, 1, none⟩) HLT1.out).trans G3; have F5a : w5.frozen? ⟨w.heap.size, 0, none⟩ = false := (HB5.out.frozen (p := ⟨w.heap.size, 0, none⟩) HLT0.out).trans F0; have F5b : w5.frozen? ⟨w.heap.size, 1, none⟩ = false := (HB5.out.frozen (p := ⟨w.heap.size, 1, none⟩) HLT0.out).trans F1; have F5c : w5.frozen? ⟨w.heap.size + 1, 0, none⟩ = false := (HB5.out.frozen (p := ⟨w.heap.size + 1, 0, none⟩) HLT1.out).trans F2; have F5d : w5.frozen? ⟨w.heap.size + 1, 1, none⟩ = false := (HB5.out.frozen (p := ⟨w.heap.size + 1, 1, none⟩) HLT1.out).trans F3; clear hown1 hbel1))
          go_wp2_with fail
          have hb5z := HB5.out.size
          refine (behind_nil _ _).mono ?_
          rintro _ w6 ⟨⟨v2', rfl, ho6⟩, hb6⟩
          obtain ⟨g6, c6, ev6, -⟩ := own_some ho6 (by omega)
          subst ev6
          have HO6 := Lib.hid ho6
          have hz6 := hb6.size
          simp only [World.size_setCell] at hz6
          have K0 : w6.cell? ⟨w.heap.size, 0, none⟩ = some (.slice (some ⟨gr, 0, none⟩) (1) cr) := by rw [hb6.cell (p := ⟨w.heap.size, 0, none⟩) (by simp only [World.size_setCell]; omega)]; exact World.cell?_setCell_same _ _ _ G5a
          have K1 : w6.cell? ⟨w.heap.size, 1, none⟩ = some (.slice none 0 0) := by rw [hb6.cell (p := ⟨w.heap.size, 1, none⟩) (by simp only [World.size_setCell]; omega), World.cell?_setCell_other _ _ _ _ (by simp)]; exact G5b
          have K2 : w6.cell? ⟨w.heap.size + 1, 0, none⟩ = some (.slice none 0 0) := by rw [hb6.cell (p := ⟨w.heap.size + 1, 0, none⟩) (by simp only [World.size_setCell]; omega), World.cell?_setCell_other _ _ _ _ (by simp)]; exact G5c
          have K3 : w6.cell? ⟨w.heap.size + 1, 1, none⟩ = some (.slice none 0 0) := by rw [hb6.cell (p := ⟨w.heap.size + 1, 1, none⟩) (by simp only [World.size_setCell]; omega), World.cell?_setCell_other _ _ _ _ (by simp)]; exact G5d
          have FF : ∀ q o, q = w.heap.size ∨ q = w.heap.size + 1 → w6.frozen? ⟨q, o, none⟩ = w5.frozen? ⟨q, o, none⟩ := fun q o hq => by
            rw [hb6.frozen (p := ⟨q, o, none⟩) (by simp only [World.size_setCell]; omega), World.frozen?_setCell]
          have J1 : w6.frozen? ⟨w.heap.size, 1, none⟩ = false := by rw [FF _ _ (.inl rfl)]; exact F5b
          have J2 : w6.frozen? ⟨w.heap.size + 1, 0, none⟩ = false := by rw [FF _ _ (.inr rfl)]; exact F5c
          have J3 : w6.frozen? ⟨w.heap.size + 1, 1, none⟩ = false := by rw [FF _ _ (.inr rfl)]; exact F5d
          have HRS := Lib.hid (ownsRow_setCell_below HO5.out (a := ⟨w.heap.size, 0, none⟩) (by simp only; omega) (.slice (some ⟨gr, 0, none⟩) (1) cr))
          have HRS6 := Lib.hid (ownsRow_later HRS.out hb6)
          have HB6 := Lib.hid (((HB2.out.trans (HB5.out.mono (by omega))).setCell (p := ⟨w.heap.size, 0, none⟩) (Nat.le_refl _) (.slice (some ⟨gr, 0, none⟩) (1) cr)).trans (hb6.mono (by simp only [World.size_setCell]; omega)))
          clear ho6 hb6 FF G5a G5b G5c G5d F5a F5b F5c F5d
          go_wp2_with fail
          (try simp only [Exit.inBlock, Exit.then])
          have HB7 := Lib.hid (HB6.out.setCell (p := ⟨w.heap.size, 1, none⟩) (Nat.le_refl _) (.slice (some ⟨g6, 0, none⟩) (1) c6))
          have L2 : (w6.setCell ⟨w.heap.size, 1, none⟩ (.slice (some ⟨g6, 0, none⟩) (1) c6)).cell? ⟨w.heap.size + 1, 0, none⟩ = some (.slice none 0 0) := by rw [World.cell?_setCell_other _ _ _ _ (by simp)]; exact K2
          have L3 : (w6.setCell ⟨w.heap.size, 1, none⟩ (.slice (some ⟨g6, 0, none⟩) (1) c6)).cell? ⟨w.heap.size + 1, 1, none⟩ = some (.slice none 0 0) := by rw [World.cell?_setCell_other _ _ _ _ (by simp)]; exact K3
          have HSP := Lib.hid (st_put L2 L3 (.slice (some ⟨gr, 0, none⟩) (1) cr) (.slice (some ⟨g6, 0, none⟩) (1) c6))
          refine bodyPost_ret (results_row4 (x := .agg #[(.slice (some ⟨gr, 0, none⟩) (1) cr), (.slice (some ⟨g6, 0, none⟩) (1) c6)]) rfl rfl (load_st HSP.out.1 HSP.out.2)) rfl ?_
          refine ⟨⟨_, _, ([] : List ByteArray) ++ [t], ([] : List Int) ++ [1], _, true, 0, rfl, .new (by omega) HNO.out (by rw [← HN.out]; omega), .inr ⟨?_, fun h => by simp at h⟩, .inr ⟨?_, fun h => by simp at h⟩⟩, (HB7.out.setCell (p := ⟨w.heap.size + 1, 0, none⟩) (by simp only; omega) _).setCell (p := ⟨w.heap.size + 1, 1, none⟩) (by simp only; omega) _⟩
          · have e : (([] : List ByteArray) ++ [t]).length = 1 := rfl
            rw [e]
            refine ownsRow_base (ownsRow_setCell_below (ownsRow_setCell_below (ownsRow_setCell_below HRS6.out ?_ _) ?_ _) ?_ _) (by omega) <;> (simp only; omega)
          · have e : (([] : List Int) ++ [1]).length = 1 := rfl
            rw [e]
            refine ownsRow_base (ownsRow_setCell_below (ownsRow_setCell_below (ownsRow_setCell_below HO6.out ?_ _) ?_ _) ?_ _) (by simp only [World.size_setCell]; omega) <;> (simp only [World.size_setCell]; omega)
        · have HLEN := Lib.hid HN.out.symm
          obtain ⟨x0, hx0⟩ : ∃ x, L[0]? = some x := ⟨_, List.getElem?_eq_getElem (by have := HN.out; omega)⟩
          obtain ⟨a', cap', es, hle, hmx, hcs⟩ := H1.out.below HB2.out
          simp only [Value.slice.injEq] at es
          obtain ⟨rfl, -, rfl⟩ := es
          obtain ⟨b1, o1, rfl, -, hcc⟩ := hcs (by have := HN.out; omega)
          have HCN := Lib.hid (show ∀ j u, (strsV L)[j]? = some u → w2.cell? ⟨b1, o1 + j, none⟩ = some u from fun j u hj => by
            unfold strsV at hj
            rw [List.getElem?_map] at hj
            obtain ⟨x, hx, rfl⟩ := Option.map_eq_some_iff.1 hj
            exact hcc j x hx)
          have HL := Lib.hid (show (strsV L).length = n from by simp [strsV, HN.out])
          have HN1 := Lib.hid (show 0 + n ≤ maxLen from by unfold maxLen; omega)
          have HN3 := Lib.hid (show n + 1 ≤ maxLen from by unfold maxLen; omega)
          have HOWN := Lib.hid (World.ownsRow_nil w2 w2.heap.size 9 1)
          clear hcc hcs hx0
          go_upto_region 11 with (at_builtin; go_must (refine wpList_extend (.string ByteArray.empty) 16 HOWN.out Tryd.underlying22 infoS0 rfl rfl HL.out HCN.out (strs_oneCell' _) rfl HN1.out (by omega) (Nat.le_refl _) ?_; intro v3 w4 hown0 hbel0 _ hnil; have HO4 := Lib.hid (show w4.ownsRow w2.heap.size 9 1 v3 n (strsV L) from by simpa using hown0); (obtain ⟨g4, c4, ev4, -⟩ := own_some HO4.out (by omega)); subst ev4; have HB4 := Lib.hid hbel0; clear hown0 hbel0 hnil))
          have hz4 := HB4.out.size
          go_upto_region 12 with (at_builtin; go_must (refine wpList_push (.string ByteArray.empty) 16 HO4.out Tryd.underlying22 infoS0 rfl rfl (u := .string t) rfl rfl HN3.out (by omega) hz4 ?_; intro v' w5 hown1 hbel1 _; have hb5z := hbel1.size; have HO5 := Lib.hid (show w5.ownsRow w2.heap.size 9 1 v' (n + 1) (strsV (L ++ [t])) from by (have h9 := hown1; simpa [strsV] using h9)); (obtain ⟨gr, cr, ev, -⟩ := own_some HO5.out (by omega)); subst ev; have HB5 := Lib.hid (HB4.out.trans hbel1); have G5a : w5.cell? ⟨w.heap.size, 0, none⟩ = some (.slice (some ⟨b1, o1, none⟩) n c1) := (HB5.out.cell (p := ⟨w.heap.size, 0, none⟩) HLT0.out).trans G0; have G5b : w5.cell? ⟨w.heap.size, 1, none⟩ = some (.slice a2 n c2) := (HB5.out.cell (p := ⟨w.heap.size, 1, none⟩) HLT0.out).trans G1; have G5c : w5.cell? ⟨w.heap.size + 1, 0, none⟩ = some (.slice none 0 0) := (HB5.out.cell (p := ⟨w.heap.size + 1, 0, none⟩) HLT1.out).trans G2; have G5d : w5.cell? ⟨w.heap.size + 1, 1, none⟩ = some (.slice none 0 0) := (HB5.out.cell (p := ⟨w.heap.size + 1, 1, none⟩) HLT1.out).trans G3; have F5a : w5.frozen? ⟨w.heap.size, 0, none⟩ = false := (HB5.out.frozen (p := ⟨w.heap.size, 0, none⟩) HLT0.out).trans F0; have F5b : w5.frozen? ⟨w.heap.size, 1, none⟩ = false := (HB5.out.frozen (p := ⟨w.heap.size, 1, none⟩) HLT0.out).trans F1; have F5c : w5.frozen? ⟨w.heap.size + 1, 0, none⟩ = false := (HB5.out.frozen (p := ⟨w.heap.size + 1, 0, none⟩) HLT1.out).trans F2; have F5d : w5.frozen? ⟨w.heap.size + 1, 1, none⟩ = false := (HB5.out.frozen (p := ⟨w.heap.size + 1, 1, none⟩) HLT1.out).trans F3; clear hown1 hbel1))
          go_wp2_with fail
          have hb5z := HB5.out.size
          refine (behind_some _ N 1 _ (H2.out.below ((HB2.out.trans (HB5.out.mono (by omega))).setCell (p := ⟨w.heap.size, 0, none⟩) (Nat.le_refl _) _)) (by rw [HM.out]; omega) (by rw [HM.out]; omega)).mono ?_
          rintro _ w6 ⟨⟨v2', rfl, ho6⟩, hb6⟩
          rw [HM.out] at ho6
          obtain ⟨g6, c6, ev6, -⟩ := own_some ho6 (by omega)
          subst ev6
          have HO6 := Lib.hid ho6
          have hz6 := hb6.size
          simp only [World.size_setCell] at hz6
          have K0 : w6.cell? ⟨w.heap.size, 0, none⟩ = some (.slice (some ⟨gr, 0, none⟩) (n + 1) cr) := by rw [hb6.cell (p := ⟨w.heap.size, 0, none⟩) (by simp only [World.size_setCell]; omega)]; exact World.cell?_setCell_same _ _ _ G5a
          have K1 : w6.cell? ⟨w.heap.size, 1, none⟩ = some (.slice a2 n c2) := by rw [hb6.cell (p := ⟨w.heap.size, 1, none⟩) (by simp only [World.size_setCell]; omega), World.cell?_setCell_other _ _ _ _ (by simp)]; exact G5b
          have K2 : w6.cell? ⟨w.heap.size + 1, 0, none⟩ = some (.slice none 0 0) := by rw [hb6.cell (p := ⟨w.heap.size + 1, 0, none⟩) (by simp only [World.size_setCell]; omega), World.cell?_setCell_other _ _ _ _ (by simp)]; exact G5c
          have K3 : w6.cell? ⟨w.heap.size + 1, 1, none⟩ = some (.slice none 0 0) := by rw [hb6.cell (p := ⟨w.heap.size + 1, 1, none⟩) (by simp only [World.size_setCell]; omega), World.cell?_setCell_other _ _ _ _ (by simp)]; exact G5d
          have FF : ∀ q o, q = w.heap.size ∨ q = w.heap.size + 1 → w6.frozen? ⟨q, o, none⟩ = w5.frozen? ⟨q, o, none⟩ := fun q o hq => by
            rw [hb6.frozen (p := ⟨q, o, none⟩) (by simp only [World.size_setCell]; omega), World.frozen?_setCell]
          have J1 : w6.frozen? ⟨w.heap.size, 1, none⟩ = false := by rw [FF _ _ (.inl rfl)]; exact F5b
          have J2 : w6.frozen? ⟨w.heap.size + 1, 0, none⟩ = false := by rw [FF _ _ (.inr rfl)]; exact F5c
          have J3 : w6.frozen? ⟨w.heap.size + 1, 1, none⟩ = false := by rw [FF _ _ (.inr rfl)]; exact F5d
          have HRS := Lib.hid (ownsRow_setCell_below HO5.out (a := ⟨w.heap.size, 0, none⟩) (by simp only; omega) (.slice (some ⟨gr, 0, none⟩) (n + 1) cr))
          have HRS6 := Lib.hid (ownsRow_later HRS.out hb6)
          have HB6 := Lib.hid (((HB2.out.trans (HB5.out.mono (by omega))).setCell (p := ⟨w.heap.size, 0, none⟩) (Nat.le_refl _) (.slice (some ⟨gr, 0, none⟩) (n + 1) cr)).trans (hb6.mono (by simp only [World.size_setCell]; omega)))
          clear ho6 hb6 FF G5a G5b G5c G5d F5a F5b F5c F5d
          go_wp2_with fail
          (try simp only [Exit.inBlock, Exit.then])
          have HB7 := Lib.hid (HB6.out.setCell (p := ⟨w.heap.size, 1, none⟩) (Nat.le_refl _) (.slice (some ⟨g6, 0, none⟩) (n + 1) c6))
          have L2 : (w6.setCell ⟨w.heap.size, 1, none⟩ (.slice (some ⟨g6, 0, none⟩) (n + 1) c6)).cell? ⟨w.heap.size + 1, 0, none⟩ = some (.slice none 0 0) := by rw [World.cell?_setCell_other _ _ _ _ (by simp)]; exact K2
          have L3 : (w6.setCell ⟨w.heap.size, 1, none⟩ (.slice (some ⟨g6, 0, none⟩) (n + 1) c6)).cell? ⟨w.heap.size + 1, 1, none⟩ = some (.slice none 0 0) := by rw [World.cell?_setCell_other _ _ _ _ (by simp)]; exact K3
          have HSP := Lib.hid (st_put L2 L3 (.slice (some ⟨gr, 0, none⟩) (n + 1) cr) (.slice (some ⟨g6, 0, none⟩) (n + 1) c6))
          refine bodyPost_ret (results_row4 (x := .agg #[(.slice (some ⟨gr, 0, none⟩) (n + 1) cr), (.slice (some ⟨g6, 0, none⟩) (n + 1) c6)]) rfl rfl (load_st HSP.out.1 HSP.out.2)) rfl ?_
          refine ⟨⟨_, _, L ++ [t], N ++ [1], _, true, 0, by rw [HLEN.out]; rfl, .new (by omega) HNO.out (by rw [← HN.out]; omega), .inr ⟨?_, fun h => by simp at h⟩, .inr ⟨?_, fun h => by simp at h⟩⟩, (HB7.out.setCell (p := ⟨w.heap.size + 1, 0, none⟩) (by simp only; omega) _).setCell (p := ⟨w.heap.size + 1, 1, none⟩) (by simp only; omega) _⟩
          · have e : (L ++ [t]).length = n + 1 := by simp [HN.out]
            rw [e]
            refine ownsRow_base (ownsRow_setCell_below (ownsRow_setCell_below (ownsRow_setCell_below HRS6.out ?_ _) ?_ _) ?_ _) (by omega) <;> (simp only; omega)
          · have e : (N ++ [1]).length = n + 1 := by simp [HM.out]
            rw [e]
            refine ownsRow_base (ownsRow_setCell_below (ownsRow_setCell_below (ownsRow_setCell_below HO6.out ?_ _) ?_ _) ?_ _) (by simp only [World.size_setCell]; omega) <;> (simp only [World.size_setCell]; omega)
    · obtain ⟨hit, k, hk, hk0⟩ := hi
      have hkm := HSM.out k (List.mem_of_getElem? hk)
      obtain ⟨b2, o2, rfl, hcell⟩ := (H2.out.below HB2.out).liesD hk
      have HI := Lib.hid hit
      have HK := Lib.hid hk
      have hlt := (List.getElem?_eq_some_iff.1 hk).1
      rw [HM.out] at hlt
      have hwr : IntKind.i64.wrap (k + 1) = k + 1 := IntWalk.i64_in _ (by omega)
      clear hit hk
      go_wp2_with fail
      go_still_tail 9, (by kernel_rfl)
      change wpList _ _ _ _ _ w2.drew
      go_wp2_with fail
      have HBD := Lib.hid (HB2.out.trans ((Below.refl w2.heap.size w2).drew.mono (by omega)))
      refine (set_anyD _ N i (k + 1) w2.drew (H2.out.below HBD.out) (by rw [HM.out]; exact hlt) (by rw [HM.out]; omega)).mono ?_
      rintro _ w6 ⟨⟨v2', rfl, ho6⟩, hb6⟩
      rw [HM.out] at ho6
      obtain ⟨g6, c6, ev6, -⟩ := own_some ho6 (by omega)
      subst ev6
      have HO6 := Lib.hid ho6
      have hz6 := hb6.size
      simp only [World.size_drew] at hz6
      have K0 : w6.cell? ⟨w.heap.size, 0, none⟩ = some (.slice a1 n c1) := by rw [hb6.cell (p := ⟨w.heap.size, 0, none⟩) (by simp only [World.size_drew]; omega)]; exact G0
      have K1 : w6.cell? ⟨w.heap.size, 1, none⟩ = some (.slice (some ⟨b2, o2, none⟩) n c2) := by rw [hb6.cell (p := ⟨w.heap.size, 1, none⟩) (by simp only [World.size_drew]; omega)]; exact G1
      have K2 : w6.cell? ⟨w.heap.size + 1, 0, none⟩ = some (.slice none 0 0) := by rw [hb6.cell (p := ⟨w.heap.size + 1, 0, none⟩) (by simp only [World.size_drew]; omega)]; exact G2
      have K3 : w6.cell? ⟨w.heap.size + 1, 1, none⟩ = some (.slice none 0 0) := by rw [hb6.cell (p := ⟨w.heap.size + 1, 1, none⟩) (by simp only [World.size_drew]; omega)]; exact G3
      have J1 : w6.frozen? ⟨w.heap.size, 1, none⟩ = false := by rw [hb6.frozen (p := ⟨w.heap.size, 1, none⟩) (by simp only [World.size_drew]; omega)]; exact F1
      have J2 : w6.frozen? ⟨w.heap.size + 1, 0, none⟩ = false := by rw [hb6.frozen (p := ⟨w.heap.size + 1, 0, none⟩) (by simp only [World.size_drew]; omega)]; exact F2
      have J3 : w6.frozen? ⟨w.heap.size + 1, 1, none⟩ = false := by rw [hb6.frozen (p := ⟨w.heap.size + 1, 1, none⟩) (by simp only [World.size_drew]; omega)]; exact F3
      have HB6 := Lib.hid (HBD.out.trans (hb6.mono (by simp only [World.size_drew]; omega)))
      clear ho6 hb6
      go_wp2_with fail
      (try simp only [Exit.inBlock, Exit.then])
      have HB7 := Lib.hid (HB6.out.setCell (p := ⟨w.heap.size, 1, none⟩) (Nat.le_refl _) (.slice (some ⟨g6, 0, none⟩) n c6))
      have L2 : (w6.setCell ⟨w.heap.size, 1, none⟩ (.slice (some ⟨g6, 0, none⟩) n c6)).cell? ⟨w.heap.size + 1, 0, none⟩ = some (.slice none 0 0) := by rw [World.cell?_setCell_other _ _ _ _ (by simp)]; exact K2
      have L3 : (w6.setCell ⟨w.heap.size, 1, none⟩ (.slice (some ⟨g6, 0, none⟩) n c6)).cell? ⟨w.heap.size + 1, 1, none⟩ = some (.slice none 0 0) := by rw [World.cell?_setCell_other _ _ _ _ (by simp)]; exact K3
      have HSP := Lib.hid (st_put L2 L3 (.slice a1 n c1) (.slice (some ⟨g6, 0, none⟩) n c6))
      refine bodyPost_ret (results_row4 (x := .agg #[.slice a1 n c1, (.slice (some ⟨g6, 0, none⟩) n c6)]) rfl rfl (load_st HSP.out.1 HSP.out.2)) rfl ?_
      refine ⟨⟨_, _, L, N.set i (k + 1), _, false, 0, rfl, .had i k (by omega) HI.out HK.out hk0, .inl ⟨rfl, rfl⟩, .inr ⟨?_, fun h => ?_⟩⟩, (HB7.out.setCell (p := ⟨w.heap.size + 1, 0, none⟩) (by simp only; omega) _).setCell (p := ⟨w.heap.size + 1, 1, none⟩) (by simp only; omega) _⟩
      · have e : (N.set i (k + 1)).length = n := by simp [HM.out]
        rw [e]
        refine ownsRow_base (ownsRow_setCell_below (ownsRow_setCell_below (ownsRow_setCell_below HO6.out ?_ _) ?_ _) ?_ _) (by simp only [World.size_drew]; omega) <;> (simp only [World.size_drew]; omega)
      · have e := congrArg List.length h
        simp only [List.length_set, List.length_nil, HM.out] at e
        omega

end Go.Proofs.YtaoekllajnnbjaaDoor
