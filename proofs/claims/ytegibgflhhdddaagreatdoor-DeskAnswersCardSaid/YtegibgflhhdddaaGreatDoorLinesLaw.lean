/- A loop over an iterator that keeps what is left to say in a captured variable (a box of one cell): a law of its own, and strings.Lines. -/
import Derived.RangeFuncNested
import Derived.RangeFuncBound
import Derived.RangeFuncCalls
import Derived.RangeFuncLeaves
import Derived.Shelf.Abstract
import Derived.Shelf.RegionOpen
import Derived.WalkKit
import Derived.OwnWalkIn
import Derived.TacticsInMore
import Derived.LoopNIn
import Derived.LoopIn
import Derived.Test.YtegibgflhhdddaaGreatDoorBook7
namespace Go.Proofs.YtegibgflhhdddaaGreatDoor
open Go.RowKit
attribute [local go_sem] Oper.semAt_some

variable {F : Fence} {n : Nat} {P : Program}

/-- the iterator's side: k rounds are over, the box says what is left; each round finds the box turned on -/
def SeqBox (F : Fence) (n : Nat) (P : Program) (gf : Nat) (lb : Array Value) (c t : Nat) (enc rest : Nat → Value) (N : Nat) : Prop :=
  ∀ (l : Nat) (J : Nat → World → Prop) (Jx : World → Prop) (W : World), (∀ k A, J k A → J k A.drew) → (∀ k A v, J k A → J k (A.setCell ⟨c, 0, none⟩ v)) →
    (∀ k A, k < N → J k A → A.heap[c]? = some (.cells #[rest (k + 1)] t (0, 0)) → YieldAt F (n - 1) P l #[enc k] A fun e A' =>
      (e = .returned (.bool true) ∧ J (k + 1) A' ∧ A'.heap[c]? = A.heap[c]?) ∨ (e = .returned (.bool false) ∧ Jx A')) →
    J 0 W → W.heap[c]? = some (.cells #[rest 0] t (0, 0)) →
    CallsIn F n P gf (#[.func (.yield l) #[] #[]] ++ lb) W fun e W' => (∃ v, e = .returned v) ∧ (J N W' ∨ Jx W')

/-- how a round's body is left -/
def boxPost (c : Nat) (I : Nat → World → Prop) (Ix : Code → World → Prop) (k : Nat) (W : World) : Exit → Act → World → Prop
  | .normal, _, W' => KeepsOthers W W' ∧ W'.heap[c]? = W.heap[c]? ∧ I k W'
  | .ret, _, W' => KeepsOthers W W' ∧ Ix .ret W'
  | .exit id, _, W' => KeepsOthers W W' ∧ Ix (.exit id) W'
  | .goto t, _, W' => KeepsOthers W W' ∧ Ix (.goto t) W'
  | .panic _, _, _ => False
  | .outgrown, _, _ => False

theorem wpIn_range_box {g : Operand} {ps : Array Tmp} {assign body : Code} {Q : Exit → Act → World → Prop} {a : Act} {w : World}
    (hro : F.round = none) (h1 : 1 ≤ n) {gf : Nat} {lb : Array Value} (hg : a.eval g = .func (.func gf) #[] lb) (hFg : F.fn gf) (eg : ∀ args w, (callFunc gf args).run P w = .ok (.enter gf args) w)
    {c t : Nat} {enc rest : Nat → Value} {N : Nat} (hseq : SeqBox F (n - 1) P gf lb c t enc rest N) (hbox : w.heap[c]? = some (.cells #[rest 0] t (0, 0))) (hps : ps.size = 1)
    (I : Nat → World → Prop) (Ix : Code → World → Prop) (hId : ∀ k A, I k A → I k A.drew) (hIc : ∀ k A v, I k A → I k (A.setCell ⟨c, 0, none⟩ v))
    (hI : OwnFrom w.heap.size I) (hIx : ∀ cd, OwnFrom w.heap.size (fun (_ : Unit) A => Ix cd A)) (h0 : I 0 w) (a₁ : Nat → Act)
    (hassign : ∀ (l k : Nat) (W : World) (K : Act → World → Prop), K (a₁ k) W →
      assign.wpIn (F.inRound l) (n - 1 - 1) P (Exit.then K (fun _ _ _ => False)) { tmps := (ps.zip #[enc k]).foldl (fun t (p, v) => t.setIfInBounds p v) a.tmps, defers := [] } W)
    (hbody : ∀ (l k : Nat) (W : World), I k W → k < N → body.wpIn (F.inRound l) (n - 1 - 1) P (boxPost c I Ix (k + 1) W) (a₁ k) W)
    (hdone : ∀ (D : Nat) (W : World), w.heap.size ≤ D → I N W → W.heap[D]? = some (.deferred (some [])) → Q .normal { a with defers := { target := .collected D, args := #[] } :: a.defers } W)
    (hstop : ∀ (D : Nat) (cd : Code) (W : World), w.heap.size ≤ D → Ix cd W → W.heap[D]? = some (.deferred (some [])) → cd.wpIn F n P Q { a with defers := { target := .collected D, args := #[] } :: a.defers } W) :
    (Code.rangeFunc g ps assign body).wpIn F n P Q a w := by
  have hcl : c < w.heap.size := (Array.getElem?_eq_some_iff.1 hbox).1
  refine wpIn_rangeFunc fun fn hfn => ?_
  rw [hro]
  obtain ⟨lp, hlp⟩ : ∃ lp : LoopState → Option Code → Obj, lp = fun st pe => .loop { state := st, pending := pe, fn, tmps := a.tmps, params := ps, assign, body, defers := w.heap.size } := ⟨_, rfl⟩
  obtain ⟨W1, hW1⟩ : ∃ W1, W1 = (w.alloc (.deferred (some []))).alloc (lp .ready none) := ⟨_, rfl⟩
  have hL1 : W1.heap[w.heap.size + 1]? = some (lp .ready none) := by
    have h := World.alloc_heap_new (w.alloc (.deferred (some []))) (lp .ready none)
    rw [World.size_alloc] at h
    rw [hW1]
    exact h
  have hD1 : W1.heap[w.heap.size]? = some (.deferred (some [])) := by
    rw [hW1]
    exact (Below.heap_alloc _ _ _ (by simp)).trans (World.alloc_heap_new w _)
  have hB1 : W1.heap[c]? = some (.cells #[rest 0] t (0, 0)) := by
    rw [hW1]
    exact (Below.heap_alloc _ _ _ (by simp; omega)).trans ((Below.heap_alloc _ _ _ hcl).trans hbox)
  have hI1 : I 0 W1 := by rw [hW1]; exact hI.alloc _ (hI.alloc _ h0)
  have hne : ∀ (A : World) (v : Value) (x : Nat), w.heap.size ≤ x → (A.setCell ⟨c, 0, none⟩ v).heap[x]? = A.heap[x]? := fun A v x hx => heap_setCell_other A ⟨c, 0, none⟩ x v (by simp only; omega)
  refine ⟨w.heap.size + 1, [{ target := .collected w.heap.size, args := #[] }], W1, { target := .fn (.func gf) lb, args := #[.func (.yield (w.heap.size + 1)) #[] #[]] }, W1, gf,
    #[.func (.yield (w.heap.size + 1)) #[] #[]] ++ lb, W1, ?_, ?_, ?_, ?_, fun _ => h1, ?_⟩
  · rw [hW1, hlp]; exact run_enterLoop_outer _ _ _ _ _
  · simp only [resolve, hg]
    simp [go_sem]
  · intro f' hf'
    simp [Target.leads] at hf'
    subst hf'
    exact hFg
  · simp [invoke, go_sem, eg]
  · refine (hseq (w.heap.size + 1)
      (fun k W => I k W ∧ W.heap[w.heap.size + 1]? = some (lp .ready none) ∧ W.heap[w.heap.size]? = some (.deferred (some [])))
      (fun W => ∃ cd, Ix cd W ∧ W.heap[w.heap.size + 1]? = some (lp .done (some cd)) ∧ W.heap[w.heap.size]? = some (.deferred (some [])))
      W1 (fun k A h => ⟨hId k A h.1, h.2.1, h.2.2⟩)
      (fun k A v h => ⟨hIc k A v h.1, (hne A v _ (by omega)).trans h.2.1, (hne A v _ (Nat.le_refl _)).trans h.2.2⟩)
      ?_ ⟨hI1, hL1, hD1⟩ hB1).mono ?_
    · rintro k W hk ⟨hi, hl, hd⟩ hbx
      have hlt : w.heap.size + 1 < W.heap.size := (Array.getElem?_eq_some_iff.1 hl).1
      subst hlp
      have hy := run_yield (P := P) (args := #[enc k]) hl (by simp [hps])
      refine ⟨fn, _, assign, body, hy, roundIn_of_wpIn hfn (hassign _ k W _ ⟨_, run_beginRound hl rfl, ?_⟩)⟩
      have hl2 := World.putObj_heap_same (w := W) (o := (.loop { state := .busy, pending := none, fn, tmps := a.tmps, params := ps, assign, body, defers := w.heap.size } : Obj)) hlt
      have hd2 := (World.putObj_heap_other (w := W) (o := (.loop { state := .busy, pending := none, fn, tmps := a.tmps, params := ps, assign, body, defers := w.heap.size } : Obj)) (r := w.heap.size + 1) (k := w.heap.size) (by omega)).trans hd
      have hc2 := (World.putObj_heap_other (w := W) (o := (.loop { state := .busy, pending := none, fn, tmps := a.tmps, params := ps, assign, body, defers := w.heap.size } : Obj)) (r := w.heap.size + 1) (k := c) (by omega))
      refine wpIn_mono (hbody _ k _ (hI.putObj _ hi (by omega) hl rfl) hk) ?_
      have fin : ∀ (jump : Option Code) (W3 : World), KeepsOthers (W.putObj (w.heap.size + 1) (.loop { state := .busy, pending := none, fn, tmps := a.tmps, params := ps, assign, body, defers := w.heap.size })) W3 →
          ∃ r, W3.heap[w.heap.size + 1]? = some (.loop r) ∧ ∃ o, (Instr.endRound (w.heap.size + 1) jump).run P W3 = .ok (.bool jump.isNone) (W3.putObj (w.heap.size + 1) o) ∧
            o = .loop { state := (if jump.isNone then .ready else .done), pending := jump, fn, tmps := a.tmps, params := ps, assign, body, defers := w.heap.size } ∧
            (W3.putObj (w.heap.size + 1) o).heap[w.heap.size + 1]? = some o ∧ (W3.putObj (w.heap.size + 1) o).heap[w.heap.size]? = some (.deferred (some [])) ∧
            (W3.putObj (w.heap.size + 1) o).heap[c]? = W3.heap[c]? := fun jump W3 hk3 => by
        have hl3 := hk3.same _ _ hl2 rfl
        have hr3 := run_endRound (P := P) jump hl3
        exact ⟨_, hl3, _, hr3, rfl, World.putObj_heap_same (Array.getElem?_eq_some_iff.1 hl3).1, (World.putObj_heap_other (by omega)).trans (hk3.same _ _ hd2 rfl), World.putObj_heap_other (by omega)⟩
      rintro e a3 W3 hp
      cases e with
      | normal =>
        obtain ⟨hk3, hc3, hi3⟩ := hp
        obtain ⟨r, hl3, o, hr, rfl, hl4, hd4, hc4⟩ := fin none W3 hk3
        exact ⟨_, _, hr, .inl ⟨rfl, ⟨hI.putObj _ hi3 (by omega) hl3 rfl, hl4, hd4⟩, hc4.trans (hc3.trans hc2)⟩⟩
      | ret =>
        obtain ⟨hk3, hi3⟩ := hp
        obtain ⟨r, hl3, o, hr, rfl, hl4, hd4, hc4⟩ := fin (some .ret) W3 hk3
        exact ⟨_, _, hr, .inr ⟨rfl, .ret, (hIx _).putObj (s := ()) _ hi3 (by omega) hl3 rfl, hl4, hd4⟩⟩
      | exit id =>
        obtain ⟨hk3, hi3⟩ := hp
        obtain ⟨r, hl3, o, hr, rfl, hl4, hd4, hc4⟩ := fin (some (.exit id)) W3 hk3
        exact ⟨_, _, hr, .inr ⟨rfl, .exit id, (hIx _).putObj (s := ()) _ hi3 (by omega) hl3 rfl, hl4, hd4⟩⟩
      | goto t =>
        obtain ⟨hk3, hi3⟩ := hp
        obtain ⟨r, hl3, o, hr, rfl, hl4, hd4, hc4⟩ := fin (some (.goto t)) W3 hk3
        exact ⟨_, _, hr, .inr ⟨rfl, .goto t, (hIx _).putObj (s := ()) _ hi3 (by omega) hl3 rfl, hl4, hd4⟩⟩
      | panic ch => exact hp.elim
      | outgrown => exact hp.elim
    · rintro e W2 ⟨⟨v, rfl⟩, (⟨hi, hl, hd⟩ | ⟨cd, hi, hl, hd⟩)⟩
      · subst hlp
        exact ⟨none, _, run_endLoop (P := P) hl (by simp), hdone _ _ (Nat.le_refl _) (hI.putObj _ hi (by omega) hl rfl) ((World.putObj_heap_other (by omega)).trans hd)⟩
      · subst hlp
        exact ⟨some cd, _, run_endLoop (P := P) hl (by simp), hstop _ cd _ (Nat.le_refl _) ((hIx cd).putObj (s := ()) _ hi (by omega) hl rfl) ((World.putObj_heap_other (by omega)).trans hd)⟩

end Go.Proofs.YtegibgflhhdddaaGreatDoor
