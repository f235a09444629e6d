/- The reference's book in its variable; a text that is too long. -/
import Derived.Test.YtfofepmkjjeldaaGreatDoorRefOpen
import Derived.Test.YtfofepmkjjeldaaGreatDoorOpenWalk
import Derived.Test.YtfofepmkjjeldaaGreatDoorBook7
import Derived.Test.YtfofepmkjjeldaaGreatDoorInts
import Derived.Test.YtfofepmkjjeldaaGreatDoorBookTwo
namespace Go.Proofs.YtfofepmkjjeldaaGreatDoor
open Go.RowKit Go.Shelf

theorem BookAt.not_own {w : World} {g : Nat} {B : List Nat} {G : List (Nat × Nat)} {txt : List UInt8} {m : Nat} (h : BookAt w g B G txt m) {x : Nat} {cs : Array Value} {t : TypeId} {fr : Nat × Nat} (hx : w.heap[x]? = some (.cells cs t fr)) (h1 : t ≠ 58) (h2 : t ≠ 81) (h3 : t ≠ 5) : ¬ BkOwn w g x := by
  rintro (rfl | hr | hr)
  · have hs := h.bld.shape
    simp [World.shape?, hx] at hs
    exact h1 hs.1
  · obtain ⟨v, e1, e2⟩ := h.grp
    have e3 : v.ownBlock = some x := by simpa [grpRow, e1] using hr
    rcases e2.2 with ⟨rfl, -⟩ | ⟨y, cap, cur, rfl, -, hy, -⟩
    · cases e3
    · simp only [Value.ownBlock, Option.some.injEq] at e3
      rw [e3, hx] at hy
      simp at hy
      exact h2 hy.2.1
  · obtain ⟨v, e1, e2⟩ := h.bld.row
    have e3 : v.ownBlock = some x := by rw [← (h.bld.addr_block e1).2.2]; exact hr
    rcases e2.2 with ⟨rfl, -⟩ | ⟨y, cap, cur, fz, rfl, -, hy, -⟩
    · cases e3
    · simp only [Value.ownBlock, Option.some.injEq] at e3
      rw [e3, hx] at hy
      simp at hy
      exact h3 hy.2.1

theorem HasInts.frame {w w' : World} {v : Value} {L : List Int} {g : Nat} {B : List Nat} {G : List (Nat × Nat)} {txt : List UInt8} {m : Nat} (h : HasInts w v L) (hi : IntRow w v) (hb : BookAt w g B G txt m) (hf : BkFrame w w' g) : HasInts w' v L ∧ IntRow w' v := by
  have hk : ∀ (a : Addr) (n c : Nat), v = .slice (some a) n c → a.block < w.heap.size ∧ w'.heap[a.block]? = w.heap[a.block]? := fun a n c e => by
    obtain ⟨cs, fr, hh⟩ := hi a n c e
    have hlt := (Array.getElem?_eq_some_iff.1 hh).1
    exact ⟨hlt, hf.blocks _ hlt (hb.not_own hh (by decide) (by decide) (by decide))⟩
  obtain ⟨a, cap, rfl, h2, h3, h4⟩ := h
  refine ⟨⟨a, cap, rfl, h2, h3, fun h0 => ?_⟩, fun b n c e => ?_⟩
  · obtain ⟨b, off, rfl, h5, h6⟩ := h4 h0
    obtain ⟨k1, k2⟩ := hk _ _ _ rfl
    exact ⟨b, off, rfl, Nat.lt_of_lt_of_le h5 hf.size, fun j x hj => (World.cell?_of_block (a := ⟨b, off + j, none⟩) k2).trans (h6 j x hj)⟩
  · obtain ⟨cs, fr, hh⟩ := hi b n c e
    exact ⟨cs, fr, by rw [(hk b n c e).2]; exact hh⟩

theorem RefIs.frame {w w' : World} {v1 v2 v3 : Value} {b : Bk} {g : Nat} {B : List Nat} {G : List (Nat × Nat)} {txt : List UInt8} {m : Nat} (h : RefIs w v1 v2 v3 b) (hb : BookAt w g B G txt m) (hf : BkFrame w w' g) : RefIs w' v1 v2 v3 b :=
  ⟨(h.r1.frame h.i1 hb hf).1, (h.r2.frame h.i2 hb hf).1, (h.r3.frame h.i3 hb hf).1, h.n2, h.n3, (h.r1.frame h.i1 hb hf).2, (h.r2.frame h.i2 hb hf).2, (h.r3.frame h.i3 hb hf).2⟩

theorem box_frame {w w' : World} {g gx : Nat} {B : List Nat} {G : List (Nat × Nat)} {txt : List UInt8} {m : Nat} {cs : Array Value} {fr : Nat × Nat} (hb : BookAt w g B G txt m) (hf : BkFrame w w' g) (hx : w.heap[gx]? = some (.cells cs 36 fr)) : w'.heap[gx]? = some (.cells cs 36 fr) :=
  (hf.blocks gx (Array.getElem?_eq_some_iff.1 hx).1 (hb.not_own hx (by decide) (by decide) (by decide))).trans hx

theorem err_okB (c : Int) (w : World) (hg : Handled w) : Calls Tryz.prog 14 #[errV c, .int .i64 c] w fun e w' => e = .returned (.bool true) ∧ Below w.heap.size w w' :=
  (error_any c c w hg).mono fun e w' ⟨h1, h2⟩ => ⟨by rw [h1]; simp, h2⟩

theorem ints_same (va vb : Value) (xs : List Int) (w : World) (ha : HasInts w va xs) (hb : HasInts w vb xs) : Calls Tryz.prog 16 #[va, vb] w fun e w' => e = .returned (.bool true) ∧ ∃ n, w' = w.drewN n :=
  (ints_any va vb xs xs w ha hb).mono fun e w' ⟨h1, h2⟩ => ⟨by rw [h1, decide_eq_true rfl], h2⟩

attribute [local go_sem] Oper.semAt_some
set_option maxRecDepth 100000 in
set_option maxHeartbeats 2000000 in
theorem open_long (t : List UInt8) (w : World) (hb2 : 2000 < t.length) (ht : t.length ≤ 140737488351232) :
    Calls Tryz.prog 13 #[.string ⟨t.toArray⟩] w fun e w' => OpenRes t w w' e ∧ Below w.heap.size w w' := by
  refine (callsIn_wide (n := 3)).1 ?_
  refine callsIn_of_wp_marks Tryz.func13 rfl trivial ?_ rfl
  simp only [Tryz.ntmps13, List.size_toArray, List.length_cons, List.length_nil, Nat.reduceAdd, Nat.reduceSub, Array.replicate_succ, Array.replicate_zero, List.push_toArray, List.append_toArray, List.nil_append, List.cons_append]
  obtain ⟨s, hs⟩ : ∃ s : ByteArray, s = ⟨t.toArray⟩ := ⟨_, rfl⟩
  have hsz : s.size = t.length := by rw [hs]; exact List.size_toArray
  rw [← hs]
  have HS := Lib.hid hs
  have HSZ := Lib.hid hsz
  have hlim : s.size ≤ 140737488351232 := by omega
  have hbig : (2000 : Int) < (s.size : Int) := by omega
  clear hs hsz
  · gi_wp2
    have a1 : (w.alloc (.cells #[.pointer none] 24)).heap.size = w.heap.size + 1 := by simp
    have a2 : ((w.alloc (.cells #[.pointer none] 24)).alloc (.cells #[.int .i64 0] 3)).heap.size = w.heap.size + 1 + 1 := by simp
    refine ⟨_, results_cells3 rfl rfl rfl rfl (load_ptr (v := .pointer none) ((alloc_old (by omega)).trans ((alloc_old (by omega)).trans (alloc_at rfl)))) (load_int (v := .int .i64 0) ((alloc_old (by omega)).trans (alloc_at a1))) (load_err (alloc_at a2)), ?_, ?_⟩
    · have hnt : 2000 < t.length := by have := HSZ.out; omega
      refine ⟨none, ?_, ?_⟩
      · unfold openN openE
        rw [if_pos hnt, if_pos hnt]
        rfl
      · unfold openB
        rw [if_pos hnt]
    · exact (((Below.refl _ w).alloc (Nat.le_refl _) _).alloc (by omega) _).alloc (by omega) _

theorem open_any (s : ByteArray) (w : World) (B : Nat) (hB : B ≤ w.heap.size) (he : Env B w) (hs : s.size ≤ 140737488351232) :
    Calls Tryz.prog 13 #[.string s] w fun e w' => OpenRes s.data.toList w w' e ∧ Below w.heap.size w w' := by
  have hl : s.data.toList.length = s.size := rfl
  have e : s = ⟨s.data.toList.toArray⟩ := by simp
  by_cases h : 2000 < s.data.toList.length
  · have := open_long s.data.toList w h (by omega)
    rwa [← e] at this
  · have := open_walk s.data.toList w B hB he (by omega)
    rwa [← e] at this

end Go.Proofs.YtfofepmkjjeldaaGreatDoor
