/- Small notions on slices that are read, and lemmas on worlds: no program in sight. -/
import Derived.WalkKit
import Derived.WalkSpells
import Derived.WalkLawsBesides
import Derived.Lib.Hide
import Derived.Deep.QuietTactic
import Derived.BigQuiet
namespace Go.Proofs.YtegibgflhhdddaaDoor
open Go.RowKit

/-- v reads, in w, as the integers xs -/
def HasInts (w : World) (v : Value) (xs : List Int) : Prop :=
  ∃ a cap, v = .slice a xs.length cap ∧ xs.length ≤ cap ∧ cap ≤ maxLen ∧ (0 < xs.length → ∃ b off, a = some ⟨b, off, none⟩ ∧ b < w.heap.size ∧
    ∀ j x, xs[j]? = some x → w.cell? ⟨b, off + j, none⟩ = some (.int .i64 x))

theorem HasInts.below {w w' : World} {v : Value} {xs : List Int} (h : HasInts w v xs) (hb : Below w.heap.size w w') : HasInts w' v xs := by
  obtain ⟨a, cap, h2, hc1, hc2, h3⟩ := h
  refine ⟨a, cap, h2, hc1, hc2, fun h0 => ?_⟩
  obtain ⟨b, off, ha, hlt, hc⟩ := h3 h0
  refine ⟨b, off, ha, Nat.lt_of_lt_of_le hlt hb.size, fun j x hx => ?_⟩
  rw [hb.cell (p := ⟨b, off + j, none⟩) hlt]; exact hc j x hx

theorem below_drewN' (w : World) (n : Nat) : Below w.heap.size w (w.drewN n) := ⟨rfl, rfl, rfl, Nat.le_refl _, fun _ _ => rfl⟩

theorem HasInts.drewN {w : World} {v : Value} {xs : List Int} (h : HasInts w v xs) (n : Nat) : HasInts (w.drewN n) v xs := h.below (below_drewN' w n)

theorem drewN_two (w : World) (m n : Nat) : ∃ q, (w.drewN m).drewN n = w.drewN q := ⟨m + n, World.drewN_drewN ..⟩

/-- 'v = append(v, u)': u of one cell, v a row of the call's own -/
theorem wpList_push {P : Program} {ops : Array Oper} {rest : List Oper} {a : Act} {Q : Exit → Act → World → Prop} {w0 : World} {u : Value} {d : Option Tmp} {s x : Operand} {ty : TypeId} {pos : String} {af : Array Edge} {t : TypeId}
    {base : Nat} {e : TypeId} (z : Value) (bytes : Nat) {v : Value} {n : Nat} {xs : List Value} (hown : w0.ownsRow base e 1 v n xs) (ht : P.underlying t = some (.slice e)) (hi : (P.info? e).map (fun i => (i.zero, i.size, i.bytes)) = some (some z, 1, bytes)) (hzs : z.cells.size = 1)
    (hs : a.eval s = v) (hu : u.oneCell' = true)
    (hx : a.eval x = .slice (some ⟨w0.heap.size, 0, none⟩) 1 1) (hn : n + 1 ≤ maxLen) (hbytes : (n + 1) * bytes ≤ 140737488355328) (hbase : base ≤ w0.heap.size)
    (h : ∀ v' w', w'.ownsRow base e 1 v' (n + 1) (xs ++ [u]) → Below base w0 w' → (w0.alloc (.cells #[u] e)).grownBy w' v.ownBlock → wpList P ops Q rest (a.put d v') w') :
    wpList P ops Q (⟨d, .call { callee := .builtin .append, args := #[s, x], argTypes := #[t, t] }, ty, pos, af, none⟩ :: rest) a (w0.alloc (.cells #[u] e)) := by
  obtain ⟨i, hi, hz0, hz1, hz2⟩ := info_parts hi
  refine wpList_append_own _ rfl s x t rfl base e i z 1 bytes ht hi hz0 hz1 hz2 hzs (by decide) v n xs hs (hown.alloc _) ⟨w0.heap.size, 0, none⟩ 1 1 [u] hx rfl (cell_one_new _ _ _) (by simpa using hu) hn hbytes (by simp; omega) ?_
  intro v' w' h1 h2 _
  exact h v' w' h1 (((Below.refl _ _).alloc hbase _).grown h2 (by simp; omega) (fun k hk => (hown.lt k hk).1)) h2

def ints (l : List Int) : List Value := l.map (Value.int .i64)

theorem HasInts.of_own {w : World} {base : Nat} {e : TypeId} {v : Value} {n : Nat} {l : List Int} (h : w.ownsRow base e 1 v n (ints l)) : n = l.length ∧ HasInts w v l := by
  have hn : n = l.length := by have := h.1; simp [ints] at this; omega
  subst hn
  refine ⟨rfl, ?_⟩
  obtain ⟨h1, h2⟩ := h
  rcases h2 with ⟨rfl, h0⟩ | ⟨g, cap, cur, rfl, hg, hh, hc, hm, hs, ht⟩
  · exact ⟨none, 0, by rw [h0], by omega, by omega, fun h => by omega⟩
  · refine ⟨_, _, rfl, hc, hm, fun _ => ⟨g, 0, rfl, ?_, fun j x hx => ?_⟩⟩
    · rcases Nat.lt_or_ge g w.heap.size with h | h
      · exact h
      · rw [Array.getElem?_eq_none h] at hh; cases hh
    · have hj : j < l.length := by
        rcases Nat.lt_or_ge j l.length with h | h
        · exact h
        · rw [List.getElem?_eq_none h] at hx; cases hx
      have h3 : (cur.toList.take (l.length * 1))[j]? = some (.int .i64 x) := by rw [ht]; simp [ints, hx]
      rw [List.getElem?_take] at h3
      rw [if_pos (by omega)] at h3
      simp only [World.cell?, hh, Nat.zero_add]
      simpa using h3

/-- v reads, in w, as the strings xs -/
def HasStrs (w : World) (v : Value) (xs : List ByteArray) : Prop :=
  ∃ a cap, v = .slice a xs.length cap ∧ xs.length ≤ cap ∧ cap ≤ maxLen ∧ (0 < xs.length → ∃ b off, a = some ⟨b, off, none⟩ ∧ b < w.heap.size ∧
    ∀ j x, xs[j]? = some x → w.cell? ⟨b, off + j, none⟩ = some (.string x))

theorem HasStrs.below {w w' : World} {v : Value} {xs : List ByteArray} (h : HasStrs w v xs) (hb : Below w.heap.size w w') : HasStrs w' v xs := by
  obtain ⟨a, cap, h2, hc1, hc2, h3⟩ := h
  refine ⟨a, cap, h2, hc1, hc2, fun h0 => ?_⟩
  obtain ⟨b, off, ha, hlt, hc⟩ := h3 h0
  refine ⟨b, off, ha, Nat.lt_of_lt_of_le hlt hb.size, fun j x hx => ?_⟩
  rw [hb.cell (p := ⟨b, off + j, none⟩) hlt]; exact hc j x hx

theorem HasStrs.drewN {w : World} {v : Value} {xs : List ByteArray} (h : HasStrs w v xs) (n : Nat) : HasStrs (w.drewN n) v xs := h.below (below_drewN' w n)

def strsV (l : List ByteArray) : List Value := l.map Value.string

theorem HasStrs.of_own {w : World} {base : Nat} {e : TypeId} {v : Value} {n : Nat} {l : List ByteArray} (h : w.ownsRow base e 1 v n (strsV l)) : n = l.length ∧ HasStrs w v l := by
  have hn : n = l.length := by have := h.1; simp [strsV] at this; omega
  subst hn
  refine ⟨rfl, ?_⟩
  obtain ⟨h1, h2⟩ := h
  rcases h2 with ⟨rfl, h0⟩ | ⟨g, cap, cur, rfl, hg, hh, hc, hm, hs, ht⟩
  · exact ⟨none, 0, by rw [h0], by omega, by omega, fun h => by omega⟩
  · refine ⟨_, _, rfl, hc, hm, fun _ => ⟨g, 0, rfl, ?_, fun j x hx => ?_⟩⟩
    · rcases Nat.lt_or_ge g w.heap.size with h | h
      · exact h
      · rw [Array.getElem?_eq_none h] at hh; cases hh
    · have hj : j < l.length := by
        rcases Nat.lt_or_ge j l.length with h | h
        · exact h
        · rw [List.getElem?_eq_none h] at hx; cases hx
      have h3 : (cur.toList.take (l.length * 1))[j]? = some (.string x) := by rw [ht]; simp [strsV, hx]
      rw [List.getElem?_take] at h3
      rw [if_pos (by omega)] at h3
      simp only [World.cell?, hh, Nat.zero_add]
      simpa using h3

theorem HasInts.nil (w : World) : HasInts w (.slice none 0 0) [] := ⟨none, 0, rfl, Nat.le_refl _, Nat.zero_le _, fun h => absurd h (by simp)⟩
theorem HasStrs.nil (w : World) : HasStrs w (.slice none 0 0) [] := ⟨none, 0, rfl, Nat.le_refl _, Nat.zero_le _, fun h => absurd h (by simp)⟩

theorem str_inj {a b : ByteArray} (h : a.toList = b.toList) : a = b := by
  rw [ByteArray.toList_eq, ByteArray.toList_eq] at h
  exact ByteArray.ext (Array.toList_inj.1 h)

theorem str_beq_false {a b : ByteArray} (h : a ≠ b) : (a.toList == b.toList) = false := beq_eq_false_iff_ne.2 fun e => h (str_inj e)
theorem str_beq (a b : ByteArray) : (a.toList == b.toList) = decide (a = b) := by
  by_cases h : a = b
  · subst h; simp
  · rw [str_beq_false h]; simp [h]

theorem ownsRow_base {w : World} {base base' : Nat} {e : TypeId} {size : Nat} {v : Value} {n : Nat} {xs : List Value} (h : w.ownsRow base e size v n xs) (hb : base' ≤ base) : w.ownsRow base' e size v n xs := by
  obtain ⟨h1, h2⟩ := h
  refine ⟨h1, ?_⟩
  rcases h2 with h2 | ⟨g, cap, cur, rfl, hg, hh, hc⟩
  · exact .inl h2
  · exact .inr ⟨g, cap, cur, rfl, by omega, hh, hc⟩

theorem ownsRow_below {w w' : World} {base : Nat} {e : TypeId} {size : Nat} {v : Value} {n : Nat} {xs : List Value} (h : w.ownsRow base e size v n xs) {B : Nat} (hb : Below B w w') (hB : ∀ k, v.ownBlock = some k → k < B) : w'.ownsRow base e size v n xs := by
  obtain ⟨h1, h2⟩ := h
  refine ⟨h1, ?_⟩
  rcases h2 with h2 | ⟨g, cap, cur, rfl, hg, hh, hc⟩
  · exact .inl h2
  · exact .inr ⟨g, cap, cur, rfl, hg, by rw [hb.block g (hB g rfl)]; exact hh, hc⟩

theorem ownsRow_later {w w' : World} {base : Nat} {e : TypeId} {size : Nat} {v : Value} {n : Nat} {xs : List Value} (h : w.ownsRow base e size v n xs) (hb : Below w.heap.size w w') : w'.ownsRow base e size v n xs :=
  ownsRow_below h hb (fun k hk => (h.lt k hk).2)

theorem add_flat (b off j : Nat) : (⟨b, off, none⟩ : Addr).add j = ⟨b, off + j, none⟩ := by
  unfold Addr.add
  split
  · rename_i h; subst h; rfl
  · rfl

/-- 'v = append(v, xs...)': xs a slice of one-cell values, v a row of the call's own -/
theorem wpList_extend {P : Program} {ops : Array Oper} {rest : List Oper} {a : Act} {Q : Exit → Act → World → Prop} {w0 : World} {d : Option Tmp} {s x : Operand} {ty : TypeId} {pos : String} {af : Array Edge} {t : TypeId}
    {base : Nat} {e : TypeId} (z : Value) (bytes : Nat) {v : Value} {n : Nat} {xs : List Value} (hown : w0.ownsRow base e 1 v n xs) (ht : P.underlying t = some (.slice e)) (hi : (P.info? e).map (fun i => (i.zero, i.size, i.bytes)) = some (some z, 1, bytes)) (hzs : z.cells.size = 1)
    (hs : a.eval s = v) {b off m c : Nat} {news : List Value} (hl : news.length = m) (hnews : ∀ j u, news[j]? = some u → w0.cell? ⟨b, off + j, none⟩ = some u) (hu : ∀ u ∈ news, u.oneCell' = true)
    (hx : a.eval x = .slice (some ⟨b, off, none⟩) m c) (hn : n + m ≤ maxLen) (hbytes : (n + m) * bytes ≤ 140737488355328) (hbase : base ≤ w0.heap.size)
    (h : ∀ v' w', w'.ownsRow base e 1 v' (n + m) (xs ++ news) → Below base w0 w' → w0.grownBy w' v.ownBlock → (v' = .slice none 0 0 → v = .slice none 0 0 ∧ m = 0) → wpList P ops Q rest (a.put d v') w') :
    wpList P ops Q (⟨d, .call { callee := .builtin .append, args := #[s, x], argTypes := #[t, t] }, ty, pos, af, none⟩ :: rest) a w0 := by
  obtain ⟨i, hi, hz0, hz1, hz2⟩ := info_parts hi
  refine wpList_append_own _ rfl s x t rfl base e i z 1 bytes ht hi hz0 hz1 hz2 hzs (by decide) v n xs hs hown ⟨b, off, none⟩ m c news hx (by omega) (fun j u hj => by rw [add_flat]; exact hnews j u hj) hu hn hbytes hbase ?_
  intro v' w' h1 h2 h3
  exact h v' w' h1 ((Below.refl _ _).grown h2 hbase (fun k hk => (hown.lt k hk).1)) h2 h3.1

theorem ints_oneCell' (l : List Int) : ∀ u ∈ ints l, u.oneCell' = true := by
  intro u hu
  obtain ⟨x, -, rfl⟩ := List.mem_map.1 hu
  rfl

/-- a slice literal -/
theorem HasInts.lit (w : World) (xs : List Int) (e : TypeId) (hl : xs.length ≤ 1000) : HasInts (w.alloc (.cells (ints xs).toArray e)) (.slice (some ⟨w.heap.size, 0, none⟩) xs.length xs.length) xs := by
  refine ⟨_, _, rfl, Nat.le_refl _, by unfold maxLen; omega, fun _ => ⟨w.heap.size, 0, rfl, by simp, fun j x hx => ?_⟩⟩
  rw [World.cell?_alloc_at _ _ _ _ rfl]
  simp [ints, hx]

/-- an own row of some elements is no nil slice -/
theorem own_some {w : World} {base : Nat} {e : TypeId} {size : Nat} {v : Value} {n : Nat} {xs : List Value} (h : w.ownsRow base e size v n xs) (h0 : 0 < n) :
    ∃ g c, v = .slice (some ⟨g, 0, none⟩) n c ∧ w.ownsRow base e size (.slice (some ⟨g, 0, none⟩) n c) n xs := by
  have h' := h
  rcases h.2 with ⟨-, h1⟩ | ⟨g, c, cur, rfl, -⟩
  · omega
  · exact ⟨g, c, rfl, h'⟩

theorem own_hasCell {w : World} {base : Nat} {e : TypeId} {g n c : Nat} {xs : List Value} (h : w.ownsRow base e 1 (.slice (some ⟨g, 0, none⟩) n c) n xs) (j : Nat) (hj : j < xs.length) : ∃ u, w.cell? ⟨g, j, none⟩ = some u := by
  have h1 := h.1
  exact ⟨_, by rw [h.cellAt j (by omega), List.getElem?_eq_getElem hj]⟩

/-- v reads, in w, as rows of integers -/
def HasRows (w : World) (v : Value) (rs : List (List Int)) : Prop :=
  ∃ a cap, v = .slice a rs.length cap ∧ rs.length ≤ cap ∧ cap ≤ maxLen ∧ (0 < rs.length → ∃ b off, a = some ⟨b, off, none⟩ ∧ b < w.heap.size ∧
    ∀ j r, rs[j]? = some r → ∃ rv, w.cell? ⟨b, off + j, none⟩ = some rv ∧ HasInts w rv r)

theorem HasRows.below {w w' : World} {v : Value} {rs : List (List Int)} (h : HasRows w v rs) (hb : Below w.heap.size w w') : HasRows w' v rs := by
  obtain ⟨a, cap, h2, hc1, hc2, h3⟩ := h
  refine ⟨a, cap, h2, hc1, hc2, fun h0 => ?_⟩
  obtain ⟨b, off, ha, hlt, hc⟩ := h3 h0
  refine ⟨b, off, ha, Nat.lt_of_lt_of_le hlt hb.size, fun j r hr => ?_⟩
  obtain ⟨rv, h4, h5⟩ := hc j r hr
  exact ⟨rv, by rw [hb.cell (p := ⟨b, off + j, none⟩) hlt]; exact h4, h5.below hb⟩

/-- a reading lives on where one other block is written -/
theorem HasInts.keptBut {w w' : World} {l : Value} {xs : List Int} {g : Nat} (h : HasInts w l xs) (hg : w.grownBy w' (some g)) (ho : ∀ a n c, l = .slice (some a) n c → a.block ≠ g) : HasInts w' l xs := by
  obtain ⟨a, cap, h2, hc1, hc2, h3⟩ := h
  refine ⟨a, cap, h2, hc1, hc2, fun h0 => ?_⟩
  obtain ⟨b, off, ha, hlt, hc⟩ := h3 h0
  refine ⟨b, off, ha, Nat.lt_of_lt_of_le hlt hg.size, fun j x hx => ?_⟩
  refine hg.cell (hc j x hx) ?_
  intro e
  exact ho ⟨b, off, none⟩ xs.length cap (by rw [h2, ha]) (Option.some.inj e)

end Go.Proofs.YtegibgflhhdddaaDoor
