/- A slice of pieces that came in: what the frame's reading gives a walk. -/
import Derived.Test.YtglcljeeigilnaaDoorDelta1
import Derived.ProofKit
import Derived.OpenShut
import Derived.Deep.Slices
import Derived.ChangeSame
import Derived.SizedLaws
namespace Go.Proofs.YtglcljeeigilnaaDoor
open Go.RowKit Delta Go.ChangeShapes Go.WideShapes Go.Deep

def PiecesArg (W : World) (v : Value) (l : List Pc) : Prop := HasPieces W v l ∧ (∀ p ∈ l, p.own.size ≤ 140737488351232) ∧ ∀ p ∈ l, -9223372036854775808 ≤ p.pos ∧ p.pos ≤ 9223372036854775807

section
variable {H : Type} {enc : TypeId × Value → H} {W : World} {base : Nat} {spare : Nat → Bool} {held : Bool}

theorem cellsPc : Tryd.prog.cellsOf 54 = 3 := by kernel_rfl
theorem cellsInt : Tryd.prog.cellsOf 3 = 1 := by kernel_rfl
theorem cellsStr : Tryd.prog.cellsOf 9 = 1 := by kernel_rfl

set_option maxRecDepth 100000 in
theorem piece_of {a : Addr} {cs : List Value} {n : Nat} {d : DataW H} {p : List MemPlace} (hc : W.cells? base a 3 = some cs) (ht : DataW.trod enc Tryd.prog W base spare held n 54 cs = some (d, p)) :
    ∃ pc : Pc, d = .agg [.lit (.int .i64 pc.pos), .lit (.int .i64 pc.size), .lit (.string pc.own.data.toList)] ∧ W.cell? a = some (.int .i64 pc.pos) ∧ W.cell? (a.add 1) = some (.int .i64 pc.size) ∧ W.cell? (a.add 2) = some (.string pc.own) ∧
      (-9223372036854775808 ≤ pc.pos ∧ pc.pos ≤ 9223372036854775807) := by
  obtain ⟨_, hl, hat⟩ := World.cells?_some hc
  obtain ⟨xs, n', -, hx, -, hlen, hf⟩ := DataW.trod_struct Tryd.underlying54 ht
  match cs, hl with
  | [c0, c1, c2], _ =>
    match xs, hlen with
    | [y0, y1, y2], _ =>
      have f0 : DataW.trod enc Tryd.prog W base spare held n' 3 (([c0, c1, c2].drop 0).take (Tryd.prog.cellsOf 3)) = some y0 := hf 0 _ rfl
      have f1 : DataW.trod enc Tryd.prog W base spare held n' 3 (([c0, c1, c2].drop 1).take (Tryd.prog.cellsOf 3)) = some y1 := hf 1 _ rfl
      have f2 : DataW.trod enc Tryd.prog W base spare held n' 9 (([c0, c1, c2].drop 2).take (Tryd.prog.cellsOf 9)) = some y2 := hf 2 _ rfl
      rw [cellsInt] at f0 f1
      rw [cellsStr] at f2
      obtain ⟨n0, e0, g0, w0⟩ := DataW.trod_int Tryd.underlying3 f0
      obtain ⟨n1, e1, g1, w1⟩ := DataW.trod_int Tryd.underlying3 f1
      obtain ⟨s2, e2, g2, w2⟩ := DataW.trod_string Tryd.underlying9 f2
      simp at e0 e1 e2
      subst e0 e1 e2 g0 g1 g2
      simp only [Prod.mk.injEq] at hx
      refine ⟨⟨n0, n1, s2⟩, hx.1, ?_, hat 1 (by omega), hat 2 (by omega), bounds_i64 w0⟩
      have h0 := hat 0 (by omega)
      simpa [Addr.add] using h0

theorem read_pcs {v : Value} {d : DataW H} {p : List MemPlace} (hv : ∃ a len cap, v = .slice a len cap) (h : DataW.Trod enc Tryd.prog W 0 spare held 43 v d p) (hw : ∀ n ∈ d.weights Tryd.prog 43, n ≤ reachBytes) : ∃ l, PiecesArg W v l := by
  obtain ⟨a, len, cap, rfl⟩ := hv
  obtain ⟨fuel, hf⟩ := h
  rcases open_slice Tryd.underlying43 hf with ⟨hcs, _⟩ | ⟨x, l, c, m, n, D, Pl, hcs, _, hl, hm, hmm, hx, hel⟩
  · simp [Value.cells] at hcs
    obtain ⟨rfl, rfl, rfl⟩ := hcs
    exact ⟨[], HasPieces.nil W, by simp, by simp⟩
  · simp [Value.cells] at hcs
    obtain ⟨rfl, rfl, rfl⟩ := hcs
    have hlm : len ≤ m := by rw [hmm]; split <;> omega
    have hall : ∀ i, ∃ pc : Pc, i < len → D i = .agg [.lit (.int .i64 pc.pos), .lit (.int .i64 pc.size), .lit (.string pc.own.data.toList)] ∧ W.cell? (x.add (i * 3)) = some (.int .i64 pc.pos) ∧ W.cell? ((x.add (i * 3)).add 1) = some (.int .i64 pc.size) ∧ W.cell? ((x.add (i * 3)).add 2) = some (.string pc.own) ∧
        (-9223372036854775808 ≤ pc.pos ∧ pc.pos ≤ 9223372036854775807) := by
      intro i
      by_cases hi : i < len
      · obtain ⟨cs', h1, h2⟩ := hel i (by omega)
        rw [cellsPc] at h1
        obtain ⟨pc, h3⟩ := piece_of h1 h2
        exact ⟨pc, fun _ => h3⟩
      · exact ⟨⟨0, 0, ByteArray.empty⟩, fun h => absurd h hi⟩
    obtain ⟨f, hfn⟩ := Classical.axiomOfChoice hall
    have hll : ((List.range len).map f).length = len := by simp
    refine ⟨(List.range len).map f, ⟨some x, cap, by rw [hll], by rw [hll]; exact hl, hm, fun h0 => ?_⟩, fun q hq => ?_, fun q hq => ?_⟩
    · rw [hll] at h0
      obtain ⟨b, off, spot⟩ := x
      have h0' := (hfn 0 h0).2.1
      have hspot : spot = none := by simpa [Addr.add] using World.cell?_spot h0'
      subst hspot
      refine ⟨b, off, rfl, World.block_lt_of_cell? W _ (by simpa [Addr.add] using h0'), fun j q hq => ?_⟩
      rw [List.getElem?_map] at hq
      obtain ⟨j', hj', rfl⟩ := Option.map_eq_some_iff.1 hq
      have hj : j < len ∧ j' = j := by
        rcases Nat.lt_or_ge j (List.range len).length with h | h
        · rw [List.getElem?_eq_getElem h] at hj'
          simp at hj' h
          exact ⟨h, hj'.symm⟩
        · rw [List.getElem?_eq_none h] at hj'; cases hj'
      obtain ⟨hj, rfl⟩ := hj
      obtain ⟨-, c0, c1, c2, -⟩ := hfn j' hj
      rw [add_flat] at c0 c1 c2
      rw [add_flat] at c1 c2
      exact ⟨c0, c1, c2⟩
    · obtain ⟨j, hj, rfl⟩ := List.mem_map.1 hq
      have hj' := List.mem_range.1 hj
      obtain ⟨hD, -⟩ := hfn j hj'
      have hx1 : d = .slice ((List.range len).map D) ((List.range (m - len)).map fun j => D (len + j)) := by simp only [Prod.mk.injEq] at hx; exact hx.1
      have hmem : (f j).own.data.toList.length ∈ d.weights Tryd.prog 43 := by
        rw [hx1]
        simp only [DataW.weights, Tryd.underlying43]
        refine List.mem_cons_of_mem _ (List.mem_append_left _ ?_)
        have key : ∀ (l : List Nat), j ∈ l → (f j).own.data.toList.length ∈ DataW.weightsAll Tryd.prog 54 (l.map D) := by
          intro l
          induction l with
          | nil => intro h; simp at h
          | cons y l ih =>
            intro h
            simp only [List.map_cons, DataW.weightsAll, List.mem_append]
            rcases List.mem_cons.1 h with rfl | h
            · left
              rw [hD]
              simp [DataW.weights, DataW.weightsEach, Tryd.underlying54]
            · exact .inr (ih h)
        exact key _ hj
      have := hw _ hmem
      unfold reachBytes at this
      simpa using this
    · obtain ⟨j, hj, rfl⟩ := List.mem_map.1 hq
      exact (hfn j (List.mem_range.1 hj)).2.2.2.2

end

end Go.Proofs.YtglcljeeigilnaaDoor
