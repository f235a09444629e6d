/- The walks of New and live. -/
import Derived.Test.YtegibgflhhdddaaDoorFtl1
namespace Go.Proofs.YtegibgflhhdddaaDoor
open Go.RowKit Ftl

def newTo (k : Nat) : Fl := ⟨List.replicate 6 [], List.replicate k (-1, 0) ++ List.replicate (8 - k) (0, 0), List.replicate 6 0, 0⟩
theorem newTo_8 : newTo 8 = Fl.new := rfl
theorem newTo_step {k : Nat} (h : k < 8) : ({ newTo k with loc := (newTo k).loc.set k (-1, 0) } : Fl) = newTo (k + 1) := by
  have hk : k = 0 ∨ k = 1 ∨ k = 2 ∨ k = 3 ∨ k = 4 ∨ k = 5 ∨ k = 6 ∨ k = 7 := by omega
  rcases hk with rfl | rfl | rfl | rfl | rfl | rfl | rfl | rfl <;> rfl

theorem row_nil (k b : Nat) : (newTo k).row b = [] := by
  simp only [Fl.row, newTo, List.getElem?_replicate]; split <;> rfl

def zeroFl : Array Value := #[.slice none 0 0, .slice none 0 0, .slice none 0 0, .slice none 0 0, .slice none 0 0, .slice none 0 0, .int .i64 0, .int .i64 0, .int .i64 0, .int .i64 0, .int .i64 0, .int .i64 0, .int .i64 0, .int .i64 0,
  .int .i64 0, .int .i64 0, .int .i64 0, .int .i64 0, .int .i64 0, .int .i64 0, .int .i64 0, .int .i64 0, .int .i64 0, .int .i64 0, .int .i64 0, .int .i64 0, .int .i64 0, .int .i64 0, .int .i64 0]

theorem FlashIs.fresh (w : World) : FlashIs (w.alloc (.cells zeroFl 63)) w.heap.size (w.heap.size + 1) w.heap.size (newTo 0) := by
  have hc : ∀ o, (w.alloc (.cells zeroFl 63)).cell? ⟨w.heap.size, o, none⟩ = zeroFl[o]? := fun o => by rw [World.cell?_alloc_at _ _ _ _ rfl]
  refine ⟨rfl, rfl, rfl, by decide, ⟨Nat.le_refl _, by omega, by simp⟩, ⟨fun _ => .slice none 0 0, fun b hb => ⟨?_, by rw [row_nil]; exact World.ownsRow_nil _ _ _ _⟩, fun a b _ _ _ k hk => by simp [Value.ownBlock] at hk⟩, fun p a i hp => ?_, fun b n hn => ?_, by rw [hc]; rfl, fun o => by simp⟩
  · rw [hc]
    have hk : b = 0 ∨ b = 1 ∨ b = 2 ∨ b = 3 ∨ b = 4 ∨ b = 5 := by omega
    rcases hk with rfl | rfl | rfl | rfl | rfl | rfl <;> rfl
  · have hp8 : p < 8 := (List.getElem?_eq_some_iff.1 hp).1
    rw [hc, hc]
    have hk : p = 0 ∨ p = 1 ∨ p = 2 ∨ p = 3 ∨ p = 4 ∨ p = 5 ∨ p = 6 ∨ p = 7 := by omega
    rcases hk with rfl | rfl | rfl | rfl | rfl | rfl | rfl | rfl <;> (simp [newTo] at hp; obtain ⟨rfl, rfl⟩ := hp; exact ⟨rfl, rfl⟩)
  · have hb6 : b < 6 := (List.getElem?_eq_some_iff.1 hn).1
    rw [hc]
    have hk : b = 0 ∨ b = 1 ∨ b = 2 ∨ b = 3 ∨ b = 4 ∨ b = 5 := by omega
    rcases hk with rfl | rfl | rfl | rfl | rfl | rfl <;> (simp [newTo] at hn; subst hn; rfl)

set_option maxRecDepth 100000 in
set_option maxHeartbeats 2000000 in
theorem fnew_walk (w : World) : Calls Tryd.prog 6 #[] w fun e w' => e = .returned (.pointer (some ⟨w.heap.size, 0, none⟩)) ∧ FlashIs w' w.heap.size (w.heap.size + 1) w.heap.size Fl.new ∧ Below w.heap.size w w' := by
  have HF := Lib.hid (FlashIs.fresh w)
  go_enter Tryd.func6, Tryd.ntmps6
  go_wp2_with fail
  go_loopw [5] (fun ix wr => ∃ k : Nat, k ≤ 8 ∧ ix = .int .i64 k ∧ FlashIs wr w.heap.size (w.heap.size + 1) w.heap.size (newTo k) ∧ Below w.heap.size w wr) (fun ix _ => 8 - (intOf ix).toNat)
  case atStart => exact ⟨0, by omega, rfl, HF.out, (Below.refl _ _).alloc (Nat.le_refl _) _⟩
  case round =>
    obtain ⟨k, hk, rfl, hs, hb⟩ := hrel
    have HS := Lib.hid hs
    have HB := Lib.hid hb
    have hf1 := hs.free (6 + k * 2)
    have hf2 := hs.free (6 + k * 2 + 1)
    obtain ⟨g, hg⟩ : ∃ g, g = w.heap.size := ⟨_, rfl⟩
    rw [← hg] at HS HB hf1 hf2 ⊢
    have HG := Lib.hid hg
    by_cases hlt : k < 8
    · have q1 : decide ((k : Int) < 8) = true := decide_eq_true (by omega)
      obtain ⟨a0, i0, hl⟩ : ∃ a0 i0, (newTo k).loc[k]? = some (a0, i0) := ⟨_, _, List.getElem?_eq_getElem (by rw [hs.llen]; exact hlt)⟩
      obtain ⟨c1, c2⟩ := hs.locs k a0 i0 hl
      have HST := Lib.hid (hs.setLoc k 0 (-1) hlt)
      rw [← hg] at c1 c2 HST
      clear hs hb hg hl
      go_wp2_with fail
      go_roundw
      case rel =>
        obtain ⟨h1, h2⟩ := HST.out
        rw [newTo_step hlt] at h1
        refine ⟨k + 1, by omega, by go_num, ?_, HB.out.grown h2 (by have := HB.out.size; have := HG.out; omega) (fun j hj => by cases hj; exact Nat.le_refl _)⟩
        exact h1
      case measure => simp [intOf]; omega
    · obtain rfl : k = 8 := by omega
      clear hs hb hg
      go_wp2_with fail
      go_ret
      rw [← HG.out]
      exact ⟨rfl, HS.out, HB.out⟩

theorem own_shape' {w : World} {base : Nat} {e : TypeId} {size : Nat} {v : Value} {n : Nat} {xs : List Value} (h : w.ownsRow base e size v n xs) : ∃ va cap, v = .slice va n cap := by
  rcases h.2 with ⟨rfl, h0⟩ | ⟨g', cap', cur, rfl, -⟩
  · exact ⟨none, 0, by subst h0; rfl⟩
  · exact ⟨_, _, rfl⟩

/-- wpList_pushN, the new block's number told apart -/
theorem wpList_pushM {P : Program} {ops : Array Oper} {rest : List Oper} {a : Act} {Q : Exit → Act → World → Prop} {w0 : World} {us : List Value} {d : Option Tmp} {s x : Operand} {ty : TypeId} {pos : String} {af : Array Edge} {t : TypeId}
    {base : Nat} {e : TypeId} (N size : Nat) (z : Value) (bytes : Nat) {v : Value} {n : Nat} {xs : List Value} (hN : w0.heap.size = N) (hown : w0.ownsRow base e size v n xs) (ht : P.underlying t = some (.slice e)) (hi : (P.info? e).map (fun i => (i.zero, i.size, i.bytes)) = some (some z, size, bytes)) (hzs : z.cells.size = size) (hsz : 0 < size)
    (hs : a.eval s = v) (hl : us.length = size) (hu : ∀ u ∈ us, u.oneCell' = true)
    (hx : a.eval x = .slice (some ⟨N, 0, none⟩) 1 1) (hn : n + 1 ≤ maxLen) (hbytes : (n + 1) * bytes ≤ 140737488355328) (hbase : base ≤ w0.heap.size)
    (h : ∀ v' w', w'.ownsRow base e size v' (n + 1) (xs ++ us) → Below base w0 w' → (w0.alloc (.cells us.toArray e)).grownBy w' v.ownBlock → wpList P ops Q rest (a.put d v') w') :
    wpList P ops Q (⟨d, .call { callee := .builtin .append, args := #[s, x], argTypes := #[t, t] }, ty, pos, af, none⟩ :: rest) a (w0.alloc (.cells us.toArray e)) := by
  subst hN
  exact wpList_pushN size z bytes hown ht hi hzs hsz hs hl hu hx hn hbytes hbase h

def pgV (p : Page) : List Value := [.int .i64 (p.1 : Nat), .int .i64 p.2]
theorem infoPg : (Tryd.prog.info? 68).map (fun i => (i.zero, i.size, i.bytes)) = some (some (.agg #[.int .i64 0, .int .i64 0]), 2, 16) := by kernel_rfl

theorem eqArr (a b c d : Int) (w : World) : (Op.equalIn 10000 59 (.agg #[.int .i64 a, .int .i64 b]) (.agg #[.int .i64 c, .int .i64 d])).run Tryd.prog w = .ok (a == c && b == d) w := by
  have u3 := Tryd.underlying3
  have a3 := Tryd.isAgg3
  have z3 := Tryd.sizeOf3
  rw [show (10000 : Nat) = 9999 + 1 from rfl, Op.equalIn]
  simp only [Sem.run_bind, run_underlying Tryd.underlying59, Result.andThen_ok]
  simp only [Std.Legacy.Range.forIn_eq_forIn_range', Std.Legacy.Range.size, Nat.sub_zero, Nat.add_sub_cancel, Nat.div_one, List.range'_succ, List.range'_zero, List.forIn_cons, List.forIn_nil]
  go_simp
  by_cases h1 : a = c <;> by_cases h2 : b = d <;> simp [h1, h2]

set_option maxRecDepth 100000 in
set_option maxHeartbeats 2000000 in
theorem live_walk (w : World) (B base g : Nat) (s : Fl) (b : Nat) (hs : FlashIs w B base g s) (hb : b < 6) (h4 : (s.row b).length ≤ 4) (hp : ∀ p ∈ s.row b, p.1 < 8) :
    Calls Tryd.prog 41 #[.pointer (some ⟨g, 0, none⟩), .int .i64 (b : Nat)] w fun e w' => ∃ v, e = .returned v ∧ w'.ownsRow w.heap.size 68 2 v (s.live b).length (pagesV (s.live b)) ∧ Below w.heap.size w w' := by
  have HS := Lib.hid hs
  have HP := Lib.hid hp
  obtain ⟨V, hV, -⟩ := hs.rows
  obtain ⟨c0, hown⟩ := hV b hb
  obtain ⟨va, cap, hva⟩ := own_shape' hown
  rw [hva] at c0 hown
  have HOWN := Lib.hid hown
  obtain ⟨n, hn⟩ : ∃ n, n = (s.row b).length := ⟨_, rfl⟩
  rw [← hn] at c0 h4 HOWN
  have HN := Lib.hid hn
  have hbi : (b : Int) < 6 := by omega
  have heq := eqArr
  clear hs hp hV hva hown hn
  go_enter Tryd.func41, Tryd.ntmps41
  go_wp2_with fail
  clear c0
  go_loopw [4, 14] (fun v ix wr => ∃ k : Nat, k ≤ n ∧ ix = .int .i64 k ∧ wr.ownsRow w.heap.size 68 2 v (s.liveTo b k).length (pagesV (s.liveTo b k)) ∧ Below w.heap.size w wr) (fun _ ix _ => n - (intOf ix).toNat)
  case atStart => exact ⟨0, by omega, rfl, World.ownsRow_nil _ _ _ _, Below.refl _ _⟩
  case round =>
    obtain ⟨k, hk, rfl, ho, hbl⟩ := hrel
    have HO := Lib.hid ho
    have HB := Lib.hid hbl
    by_cases hlt : k < n
    · have q1 : decide (k < n) = true := decide_eq_true hlt
      obtain ⟨⟨pg, val⟩, hpg⟩ : ∃ p, (s.row b)[k]? = some p := ⟨_, List.getElem?_eq_getElem (by have := HN.out; omega)⟩
      have hpg8 : pg < 8 := HP.out _ (List.mem_of_getElem? hpg)
      obtain ⟨r, cap', hsl, hbr, hrw⟩ := HOWN.out.form (by omega)
      obtain ⟨rfl, rfl⟩ : va = some ⟨r, 0, none⟩ ∧ cap = cap' := by simpa using hsl
      have hown1 := ownsRow_later HOWN.out hbl
      have hc1 := hown1.cellAt (k * 2) (by omega)
      have hc2 := hown1.cellAt (k * 2 + 1) (by omega)
      rw [(pagesV_at hpg).1] at hc1
      rw [(pagesV_at hpg).2] at hc2
      simp only at hc1 hc2
      have hs1 := HS.out.below hbl
      obtain ⟨⟨a, i⟩, hl⟩ : ∃ e, s.loc[pg]? = some e := ⟨_, List.getElem?_eq_getElem (by rw [HS.out.llen]; exact hpg8)⟩
      obtain ⟨d1, d2⟩ := hs1.locs pg a i hl
      have hgw : g < wr.heap.size := by have := hs1.lo; omega
      have hpi : (pg : Int) < 8 := by omega
      by_cases he : a = (b : Int) ∧ i = k
      · obtain ⟨rfl, rfl⟩ := he
        have HL := Lib.hid (Fl.liveTo_yes hpg hl)
        clear hsl hbr hrw hown1 hs1 ho hbl hpg hl
        go_wp2_with fail
        go_quiet (fail)
        have hw1 : Below wr.heap.size wr ((wr.alloc (.cells #[.int .i64 (pg : Nat), .int .i64 val] 68)).drewN nq) := below_drewN ((Below.refl _ _).alloc (Nat.le_refl _) _) _
        have HW1 := Lib.hid hw1
        have HB1 := Lib.hid (HB.out.trans (hw1.mono HB.out.size))
        have HO1 := Lib.hid (ownsRow_later HO.out hw1)
        have HN1 := Lib.hid (show (s.liveTo b i).length + 1 ≤ maxLen by have := s.liveTo_length b i; unfold maxLen; omega)
        have HN2 := Lib.hid (show ((s.liveTo b i).length + 1) * 16 ≤ 140737488355328 by have := s.liveTo_length b i; omega)
        have HSZ := Lib.hid (show ((wr.alloc (.cells #[.int .i64 (pg : Nat), .int .i64 val] 68)).drewN nq).heap.size = wr.heap.size + 1 by simp)
        clear hw1
        go_wp2_with (at_builtin; go_must (refine wpList_pushM (us := [.int .i64 (pg : Nat), .int .i64 val]) (wr.heap.size + 1) 2 _ 16 HSZ.out HO1.out Tryd.underlying57 infoPg rfl (by omega) rfl rfl (by simp [Value.oneCell']) rfl HN1.out HN2.out HB1.out.size ?_; intro v' w5 hown1 hbel1 _; have HO2 := Lib.hid hown1; have HB2 := Lib.hid (HB1.out.trans hbel1); clear hown1 hbel1))
        go_roundw
        case rel =>
          refine ⟨i + 1, by omega, by go_num, ?_, HB2.out⟩
          have h := HO2.out
          rw [pagesV_append _ ((pg, val) : Page)] at h
          rw [HL.out]
          simpa using h
        case measure => simp [intOf]; omega
      · have HL := Lib.hid (Fl.liveTo_no hpg (show s.loc[pg]? ≠ some ((b : Int), k) by rw [hl]; intro e; simp at e; exact he e))
        have q2 : (a == (b : Int) && (i : Int) == (k : Int)) = false := by
          by_cases h1 : a = (b : Int)
          · have h2 : ¬ (i : Int) = (k : Int) := fun h2 => he ⟨h1, by omega⟩
            simp [h1, h2]
          · simp [h1]
        clear hsl hbr hrw hown1 hs1 ho hbl hpg hl he
        go_wp2_with fail
        go_quiet (fail)
        have hw1 : Below wr.heap.size wr ((wr.alloc (.cells #[.int .i64 (pg : Nat), .int .i64 val] 68)).drewN nq) := below_drewN ((Below.refl _ _).alloc (Nat.le_refl _) _) _
        have HB1 := Lib.hid (HB.out.trans (hw1.mono HB.out.size))
        have HO1 := Lib.hid (ownsRow_later HO.out hw1)
        clear hw1
        go_wp2_with fail
        go_roundw
        case rel => exact ⟨k + 1, by omega, by go_num, by rw [HL.out]; exact HO1.out, HB1.out⟩
        case measure => simp [intOf]; omega
    · obtain rfl : k = n := by omega
      have q1 : decide (k < k) = false := decide_eq_false hlt
      have e1 : s.live b = s.liveTo b k := by rw [HN.out]; rfl
      have HE := Lib.hid e1
      clear ho hbl e1
      go_wp2_with fail
      go_ret
      exact ⟨_, rfl, by rw [HE.out]; exact HO.out, HB.out⟩

end Go.Proofs.YtegibgflhhdddaaDoor
