/- An append of one element of several cells to a row of the call's own. No program in sight. -/
import Derived.Test.YtegibgflhhdddaaDoorBase
import Derived.Deep.AppendLies
namespace Go.Proofs.YtegibgflhhdddaaDoor
open Go.RowKit

/-- 'v = append(v, u)': u of some cells, v a row of the call's own -/
theorem wpList_pushN {P : Program} {ops : Array Oper} {rest : List Oper} {a : Act} {Q : Exit → Act → World → Prop} {w0 : World} {us : List Value} {d : Option Tmp} {s x : Operand} {ty : TypeId} {pos : String} {af : Array Edge} {t : TypeId}
    {base : Nat} {e : TypeId} (size : Nat) (z : Value) (bytes : Nat) {v : Value} {n : Nat} {xs : List Value} (hown : w0.ownsRow base e size v n xs) (ht : P.underlying t = some (.slice e)) (hi : (P.info? e).map (fun i => (i.zero, i.size, i.bytes)) = some (some z, size, bytes)) (hzs : z.cells.size = size) (hsz : 0 < size)
    (hs : a.eval s = v) (hl : us.length = size) (hu : ∀ u ∈ us, u.oneCell' = true)
    (hx : a.eval x = .slice (some ⟨w0.heap.size, 0, none⟩) 1 1) (hn : n + 1 ≤ maxLen) (hbytes : (n + 1) * bytes ≤ 140737488355328) (hbase : base ≤ w0.heap.size)
    (h : ∀ v' w', w'.ownsRow base e size v' (n + 1) (xs ++ us) → Below base w0 w' → (w0.alloc (.cells us.toArray e)).grownBy w' v.ownBlock → wpList P ops Q rest (a.put d v') w') :
    wpList P ops Q (⟨d, .call { callee := .builtin .append, args := #[s, x], argTypes := #[t, t] }, ty, pos, af, none⟩ :: rest) a (w0.alloc (.cells us.toArray e)) := by
  obtain ⟨i, hi, hz0, hz1, hz2⟩ := info_parts hi
  refine wpList_append_own _ rfl s x t rfl base e i z size bytes ht hi hz0 hz1 hz2 hzs hsz v n xs hs (hown.alloc _) ⟨w0.heap.size, 0, none⟩ 1 1 us hx (by omega) (by simpa using World.news_of_block (heap_alloc_new w0 (.cells us.toArray e))) hu hn hbytes (by simp; omega) ?_
  intro v' w' h1 h2 _
  exact h v' w' h1 (((Below.refl _ _).alloc hbase _).grown h2 (by simp; omega) (fun k hk => (hown.lt k hk).1)) h2

end Go.Proofs.YtegibgflhhdddaaDoor
