/- Small notions on slices that are read, and lemmas on worlds: no program in sight. -/
import Derived.WalkKit
import Derived.WalkSpells
import Derived.WalkLawsBesides
import Derived.Lib.Hide
import Derived.Deep.QuietTactic
import Derived.BigQuiet
namespace Go.Proofs.Ytnkihdkcmhbhkaa
open Go.RowKit

/-- v reads, in w, as the integers xs -/
def HasInts (w : World) (v : Value) (xs : List Int) : Prop :=
  ∃ a cap, v = .slice a xs.length cap ∧ xs.length ≤ cap ∧ cap ≤ maxLen ∧ (0 < xs.length → ∃ b off, a = some ⟨b, off, none⟩ ∧ b < w.heap.size ∧
    ∀ j x, xs[j]? = some x → w.cell? ⟨b, off + j, none⟩ = some (.int .i64 x))

theorem HasInts.below {w w' : World} {v : Value} {xs : List Int} (h : HasInts w v xs) (hb : Below w.heap.size w w') : HasInts w' v xs := by
  obtain ⟨a, cap, h2, hc1, hc2, h3⟩ := h
  refine ⟨a, cap, h2, hc1, hc2, fun h0 => ?_⟩
  obtain ⟨b, off, ha, hlt, hc⟩ := h3 h0
  refine ⟨b, off, ha, Nat.lt_of_lt_of_le hlt hb.size, fun j x hx => ?_⟩
  rw [hb.cell (p := ⟨b, off + j, none⟩) hlt]; exact hc j x hx

theorem below_drewN' (w : World) (n : Nat) : Below w.heap.size w (w.drewN n) := ⟨rfl, rfl, rfl, Nat.le_refl _, fun _ _ => rfl⟩

theorem HasInts.drewN {w : World} {v : Value} {xs : List Int} (h : HasInts w v xs) (n : Nat) : HasInts (w.drewN n) v xs := h.below (below_drewN' w n)

theorem drewN_two (w : World) (m n : Nat) : ∃ q, (w.drewN m).drewN n = w.drewN q := ⟨m + n, World.drewN_drewN ..⟩

/-- 'v = append(v, u)': u of one cell, v a row of the call's own -/
theorem wpList_push {P : Program} {ops : Array Oper} {rest : List Oper} {a : Act} {Q : Exit → Act → World → Prop} {w0 : World} {u : Value} {d : Option Tmp} {s x : Operand} {ty : TypeId} {pos : String} {af : Array Edge} {t : TypeId}
    {base : Nat} {e : TypeId} (z : Value) (bytes : Nat) {v : Value} {n : Nat} {xs : List Value} (hown : w0.ownsRow base e 1 v n xs) (ht : P.underlying t = some (.slice e)) (hi : (P.info? e).map (fun i => (i.zero, i.size, i.bytes)) = some (some z, 1, bytes)) (hzs : z.cells.size = 1)
    (hs : a.eval s = v) (hu : u.oneCell' = true)
    (hx : a.eval x = .slice (some ⟨w0.heap.size, 0, none⟩) 1 1) (hn : n + 1 ≤ maxLen) (hbytes : (n + 1) * bytes ≤ 140737488355328) (hbase : base ≤ w0.heap.size)
    (h : ∀ v' w', w'.ownsRow base e 1 v' (n + 1) (xs ++ [u]) → Below base w0 w' → (w0.alloc (.cells #[u] e)).grownBy w' v.ownBlock → wpList P ops Q rest (a.put d v') w') :
    wpList P ops Q (⟨d, .call { callee := .builtin .append, args := #[s, x], argTypes := #[t, t] }, ty, pos, af, none⟩ :: rest) a (w0.alloc (.cells #[u] e)) := by
  obtain ⟨i, hi, hz0, hz1, hz2⟩ := info_parts hi
  refine wpList_append_own _ rfl s x t rfl base e i z 1 bytes ht hi hz0 hz1 hz2 hzs (by decide) v n xs hs (hown.alloc _) ⟨w0.heap.size, 0, none⟩ 1 1 [u] hx rfl (cell_one_new _ _ _) (by simpa using hu) hn hbytes (by simp; omega) ?_
  intro v' w' h1 h2 _
  exact h v' w' h1 (((Below.refl _ _).alloc hbase _).grown h2 (by simp; omega) (fun k hk => (hown.lt k hk).1)) h2

def ints (l : List Int) : List Value := l.map (Value.int .i64)

theorem HasInts.of_own {w : World} {base : Nat} {e : TypeId} {v : Value} {n : Nat} {l : List Int} (h : w.ownsRow base e 1 v n (ints l)) : n = l.length ∧ HasInts w v l := by
  have hn : n = l.length := by have := h.1; simp [ints] at this; omega
  subst hn
  refine ⟨rfl, ?_⟩
  obtain ⟨h1, h2⟩ := h
  rcases h2 with ⟨rfl, h0⟩ | ⟨g, cap, cur, rfl, hg, hh, hc, hm, hs, ht⟩
  · exact ⟨none, 0, by rw [h0], by omega, by omega, fun h => by omega⟩
  · refine ⟨_, _, rfl, hc, hm, fun _ => ⟨g, 0, rfl, ?_, fun j x hx => ?_⟩⟩
    · rcases Nat.lt_or_ge g w.heap.size with h | h
      · exact h
      · rw [Array.getElem?_eq_none h] at hh; cases hh
    · have hj : j < l.length := by
        rcases Nat.lt_or_ge j l.length with h | h
        · exact h
        · rw [List.getElem?_eq_none h] at hx; cases hx
      have h3 : (cur.toList.take (l.length * 1))[j]? = some (.int .i64 x) := by rw [ht]; simp [ints, hx]
      rw [List.getElem?_take] at h3
      rw [if_pos (by omega)] at h3
      simp only [World.cell?, hh, Nat.zero_add]
      simpa using h3

/-- v reads, in w, as the strings xs -/
def HasStrs (w : World) (v : Value) (xs : List ByteArray) : Prop :=
  ∃ a cap, v = .slice a xs.length cap ∧ xs.length ≤ cap ∧ cap ≤ maxLen ∧ (0 < xs.length → ∃ b off, a = some ⟨b, off, none⟩ ∧ b < w.heap.size ∧
    ∀ j x, xs[j]? = some x → w.cell? ⟨b, off + j, none⟩ = some (.string x))

theorem HasStrs.below {w w' : World} {v : Value} {xs : List ByteArray} (h : HasStrs w v xs) (hb : Below w.heap.size w w') : HasStrs w' v xs := by
  obtain ⟨a, cap, h2, hc1, hc2, h3⟩ := h
  refine ⟨a, cap, h2, hc1, hc2, fun h0 => ?_⟩
  obtain ⟨b, off, ha, hlt, hc⟩ := h3 h0
  refine ⟨b, off, ha, Nat.lt_of_lt_of_le hlt hb.size, fun j x hx => ?_⟩
  rw [hb.cell (p := ⟨b, off + j, none⟩) hlt]; exact hc j x hx

theorem HasStrs.drewN {w : World} {v : Value} {xs : List ByteArray} (h : HasStrs w v xs) (n : Nat) : HasStrs (w.drewN n) v xs := h.below (below_drewN' w n)

def strsV (l : List ByteArray) : List Value := l.map Value.string

theorem HasStrs.of_own {w : World} {base : Nat} {e : TypeId} {v : Value} {n : Nat} {l : List ByteArray} (h : w.ownsRow base e 1 v n (strsV l)) : n = l.length ∧ HasStrs w v l := by
  have hn : n = l.length := by have := h.1; simp [strsV] at this; omega
  subst hn
  refine ⟨rfl, ?_⟩
  obtain ⟨h1, h2⟩ := h
  rcases h2 with ⟨rfl, h0⟩ | ⟨g, cap, cur, rfl, hg, hh, hc, hm, hs, ht⟩
  · exact ⟨none, 0, by rw [h0], by omega, by omega, fun h => by omega⟩
  · refine ⟨_, _, rfl, hc, hm, fun _ => ⟨g, 0, rfl, ?_, fun j x hx => ?_⟩⟩
    · rcases Nat.lt_or_ge g w.heap.size with h | h
      · exact h
      · rw [Array.getElem?_eq_none h] at hh; cases hh
    · have hj : j < l.length := by
        rcases Nat.lt_or_ge j l.length with h | h
        · exact h
        · rw [List.getElem?_eq_none h] at hx; cases hx
      have h3 : (cur.toList.take (l.length * 1))[j]? = some (.string x) := by rw [ht]; simp [strsV, hx]
      rw [List.getElem?_take] at h3
      rw [if_pos (by omega)] at h3
      simp only [World.cell?, hh, Nat.zero_add]
      simpa using h3

theorem ownsRow_base {w : World} {base base' : Nat} {e : TypeId} {size : Nat} {v : Value} {n : Nat} {xs : List Value} (h : w.ownsRow base e size v n xs) (hb : base' ≤ base) : w.ownsRow base' e size v n xs := by
  obtain ⟨h1, h2⟩ := h
  refine ⟨h1, ?_⟩
  rcases h2 with h2 | ⟨g, cap, cur, rfl, hg, hh, hc⟩
  · exact .inl h2
  · exact .inr ⟨g, cap, cur, rfl, by omega, hh, hc⟩

theorem ownsRow_below {w w' : World} {base : Nat} {e : TypeId} {size : Nat} {v : Value} {n : Nat} {xs : List Value} (h : w.ownsRow base e size v n xs) {B : Nat} (hb : Below B w w') (hB : ∀ k, v.ownBlock = some k → k < B) : w'.ownsRow base e size v n xs := by
  obtain ⟨h1, h2⟩ := h
  refine ⟨h1, ?_⟩
  rcases h2 with h2 | ⟨g, cap, cur, rfl, hg, hh, hc⟩
  · exact .inl h2
  · exact .inr ⟨g, cap, cur, rfl, hg, by rw [hb.block g (hB g rfl)]; exact hh, hc⟩

theorem ownsRow_later {w w' : World} {base : Nat} {e : TypeId} {size : Nat} {v : Value} {n : Nat} {xs : List Value} (h : w.ownsRow base e size v n xs) (hb : Below w.heap.size w w') : w'.ownsRow base e size v n xs :=
  ownsRow_below h hb (fun k hk => (h.lt k hk).2)

end Go.Proofs.Ytnkihdkcmhbhkaa
