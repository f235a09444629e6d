/- The reference's flash, in plain lists: all that was written, in order; it says what the flash says. No program in it. -/
import Derived.Test.YtegibgflhhdddaaDoorFtlMath
namespace Go.Proofs.YtegibgflhhdddaaDoor.Ftl

abbrev Ent := Int × Page
structure RF where
  L : List Ent
  many : List Nat
  er : List Nat
  act : Nat

/-- of the first k writings the last one of a page (none: -1) -/
def lastIn (L : List Ent) (p : Nat) : Nat → Int
  | 0 => -1
  | k + 1 => if (L[k]?).map (·.2.1) = some p then (k : Int) else lastIn L p k
def lastOf (L : List Ent) (p : Nat) : Int := lastIn L p L.length
def pageAt (L : List Ent) (i : Nat) : Page := ((L[i]?).map (·.2)).getD (0, 0)
def isLive (L : List Ent) (b : Nat) (i : Nat) : Prop := (L[i]?).map (·.1) = some (b : Int) ∧ lastOf L (pageAt L i).1 = (i : Int)
instance (L : List Ent) (b i : Nat) : Decidable (isLive L b i) := by unfold isLive; exact inferInstance
def liveIn (L : List Ent) (b : Nat) : Nat → List Nat
  | 0 => []
  | k + 1 => liveIn L b k ++ (if isLive L b k then [k] else [])
def liveOf (L : List Ent) (b : Nat) : List Nat := liveIn L b L.length
def sub (L : List Ent) (b : Nat) : List Page := (L.filter fun e => decide (e.1 = (b : Int))).map (·.2)

def RF.new : RF := ⟨[], List.replicate 6 0, List.replicate 6 0, 0⟩
def RF.manyAt (r : RF) (b : Nat) : Nat := r.many[b]?.getD 0
def RF.erAt (r : RF) (b : Nat) : Nat := r.er[b]?.getD 0
def RF.down (r : RF) (p : Page) : RF := { r with L := r.L ++ [((r.act : Int), p)], many := r.many.set r.act (r.manyAt r.act + 1) }
def RF.emptyTo (r : RF) (k : Nat) : List Nat := (List.range k).filter fun b => decide (r.manyAt b = 0)
def RF.bestTo (r : RF) (k : Nat) : Int := if r.emptyTo k = [] then -1 else ((pick r.erAt (r.emptyTo k) : Nat) : Int)
def RF.best (r : RF) : Nat := pick r.erAt (r.emptyTo 6)
/-- of the first b blocks the first with the fewest writings that live, but for the one that is next -/
def goneTo (L : List Ent) (best : Nat) : Nat → Int
  | 0 => -1
  | b + 1 => if b ≠ best ∧ (goneTo L best b < 0 ∨ (liveOf L b).length < (liveOf L (goneTo L best b).toNat).length) then (b : Int) else goneTo L best b
def RF.gone (r : RF) : Nat := (goneTo r.L r.best 6).toNat
def mark (g : Nat) (L : List Ent) : List Ent := L.map fun e => if e.1 = (g : Int) then (-1, e.2) else e
def RF.cleared (r : RF) (g : Nat) : RF := { L := r.L, many := r.many.set g 0, er := r.er.set g (r.erAt g + 1), act := r.best }
def RF.moved (r : RF) (k : Nat) : RF := (((liveOf r.L r.gone).take k).map (pageAt r.L)).foldl RF.down (r.cleared r.gone)
def RF.marked (r : RF) (g : Nat) : RF := { r with L := mark g r.L }
def RF.next (r : RF) : RF := if (r.emptyTo 6).length = 1 then (r.moved (liveOf r.L r.gone).length).marked r.gone else { r with act := r.best }
def RF.write (r : RF) (p : Page) : RF := (if r.manyAt r.act = 4 then r.next else r).down p

/-! lists -/

theorem sub_snoc (L : List Ent) (e : Ent) (b : Nat) : sub (L ++ [e]) b = sub L b ++ (if e.1 = (b : Int) then [e.2] else []) := by
  unfold sub
  rw [List.filter_append, List.map_append]
  congr 1
  by_cases h : e.1 = (b : Int) <;> simp [h]
theorem sub_take {L : List Ent} {i : Nat} {e : Ent} (h : L[i]? = some e) (b : Nat) : sub (L.take (i + 1)) b = sub (L.take i) b ++ (if e.1 = (b : Int) then [e.2] else []) := by
  obtain ⟨h1, h2⟩ := List.getElem?_eq_some_iff.1 h
  rw [List.take_succ_eq_append_getElem h1, h2, sub_snoc]
theorem sub_append (L M : List Ent) (b : Nat) : sub (L ++ M) b = sub L b ++ sub M b := by
  unfold sub
  rw [List.filter_append, List.map_append]
theorem sub_cut (L : List Ent) (k b : Nat) : sub L b = sub (L.take k) b ++ sub (L.drop k) b := by rw [← sub_append, List.take_append_drop]
theorem sub_at {L : List Ent} {i b : Nat} {e : Ent} (h : L[i]? = some e) (hb : e.1 = (b : Int)) : (sub L b)[(sub (L.take i) b).length]? = some e.2 := by
  rw [sub_cut L (i + 1) b, sub_take h, if_pos hb, List.append_assoc, List.getElem?_append_right (Nat.le_refl _), Nat.sub_self]
  rfl
theorem sub_mono (L : List Ent) (b : Nat) {i k : Nat} (h : i ≤ k) : (sub (L.take i) b).length ≤ (sub (L.take k) b).length := by
  have e : (L.take k).take i = L.take i := by rw [List.take_take, Nat.min_eq_left h]
  rw [sub_cut (L.take k) i b, e, List.length_append]
  omega
theorem sub_inj {L : List Ent} {i k b : Nat} {e f : Ent} (hi : L[i]? = some e) (hk : L[k]? = some f) (he : e.1 = (b : Int)) (hf : f.1 = (b : Int)) (h : (sub (L.take i) b).length = (sub (L.take k) b).length) : i = k := by
  rcases Nat.lt_trichotomy i k with h1 | h1 | h1
  · have h2 := sub_mono L b (show i + 1 ≤ k from h1)
    rw [sub_take hi, if_pos he, List.length_append, List.length_singleton] at h2
    omega
  · exact h1
  · have h2 := sub_mono L b (show k + 1 ≤ i from h1)
    rw [sub_take hk, if_pos hf, List.length_append, List.length_singleton] at h2
    omega

theorem lastIn_is (L : List Ent) (p k : Nat) : lastIn L p k = -1 ∨ ∃ i, i < k ∧ lastIn L p k = (i : Int) ∧ (L[i]?).map (·.2.1) = some p := by
  induction k with
  | zero => exact .inl rfl
  | succ k ih =>
    unfold lastIn
    split
    · rename_i h
      exact .inr ⟨k, by omega, rfl, h⟩
    · rcases ih with h | ⟨i, h1, h2⟩
      · exact .inl h
      · exact .inr ⟨i, by omega, h2⟩
theorem lastIn_ge (L : List Ent) (p : Nat) {i k : Nat} (hi : i < k) (h : (L[i]?).map (·.2.1) = some p) : (i : Int) ≤ lastIn L p k := by
  induction k with
  | zero => omega
  | succ k ih =>
    unfold lastIn
    split
    · omega
    · by_cases hik : i = k
      · subst hik
        exact absurd h (by assumption)
      · exact ih (by omega)
theorem lastIn_lt (L : List Ent) (p k : Nat) : lastIn L p k < (k : Int) := by
  rcases lastIn_is L p k with h | ⟨i, h1, h2, -⟩ <;> omega
theorem lastOf_is (L : List Ent) (p : Nat) : lastOf L p = -1 ∨ ∃ i, i < L.length ∧ lastOf L p = (i : Int) ∧ (L[i]?).map (·.2.1) = some p := lastIn_is L p L.length
theorem lastIn_congr (L M : List Ent) (p : Nat) {k : Nat} (h : ∀ i, i < k → (L[i]?).map (·.2.1) = (M[i]?).map (·.2.1)) : lastIn L p k = lastIn M p k := by
  induction k with
  | zero => rfl
  | succ k ih =>
    unfold lastIn
    rw [ih (fun i hi => h i (by omega)), h k (by omega)]
theorem lastOf_snoc (L : List Ent) (e : Ent) (p : Nat) : lastOf (L ++ [e]) p = if e.2.1 = p then (L.length : Int) else lastOf L p := by
  have h0 : lastIn (L ++ [e]) p L.length = lastIn L p L.length := lastIn_congr _ _ _ fun i hi => by rw [List.getElem?_append_left hi]
  unfold lastOf
  rw [List.length_append, List.length_singleton]
  show (if ((L ++ [e])[L.length]?).map (·.2.1) = some p then (L.length : Int) else lastIn (L ++ [e]) p L.length) = _
  rw [h0]
  simp
theorem mark_length (g : Nat) (L : List Ent) : (mark g L).length = L.length := by unfold mark; rw [List.length_map]
theorem lastOf_mark (g : Nat) (L : List Ent) (p : Nat) : lastOf (mark g L) p = lastOf L p := by
  unfold lastOf
  rw [mark_length]
  refine lastIn_congr _ _ _ fun i hi => ?_
  unfold mark
  rw [List.getElem?_map, List.getElem?_eq_getElem hi]
  simp only [Option.map_some]
  split <;> rfl
theorem mark_at {g : Nat} {L : List Ent} {i : Nat} {e : Ent} (h : L[i]? = some e) : (mark g L)[i]? = some (if e.1 = (g : Int) then (-1, e.2) else e) := by
  unfold mark
  rw [List.getElem?_map, h]
  rfl
theorem mark_take (g k : Nat) (L : List Ent) : (mark g L).take k = mark g (L.take k) := by unfold mark; rw [List.map_take]
theorem sub_mark (g b : Nat) (L : List Ent) : sub (mark g L) b = if g = b then [] else sub L b := by
  induction L with
  | nil => unfold sub mark; split <;> rfl
  | cons e L ih =>
    have h1 : mark g (e :: L) = [if e.1 = (g : Int) then (-1, e.2) else e] ++ mark g L := rfl
    have h2 : sub (e :: L) b = sub [e] b ++ sub L b := sub_append [e] L b
    rw [h1, sub_append, ih, h2]
    by_cases hg : g = b
    · rw [if_pos hg, if_pos hg, List.append_nil]
      subst hg
      unfold sub
      by_cases he : e.1 = (g : Int)
      · rw [if_pos he, List.filter_cons_of_neg (by simp)]
        rfl
      · rw [if_neg he, List.filter_cons_of_neg (by simpa using he)]
        rfl
    · rw [if_neg hg, if_neg hg]
      congr 1
      by_cases he : e.1 = (g : Int)
      · rw [if_pos he]
        unfold sub
        rw [List.filter_cons_of_neg (by simp), List.filter_cons_of_neg (by simp; omega)]
      · rw [if_neg he]

theorem liveIn_length (L : List Ent) (b k : Nat) : (liveIn L b k).length ≤ k := by
  induction k with
  | zero => exact Nat.le_refl _
  | succ k ih =>
    unfold liveIn
    rw [List.length_append]
    split
    · rw [List.length_singleton]; omega
    · rw [List.length_nil]; omega
theorem liveIn_yes {L : List Ent} {b k : Nat} (h : isLive L b k) : liveIn L b (k + 1) = liveIn L b k ++ [k] := by
  show liveIn L b k ++ (if isLive L b k then [k] else []) = _
  rw [if_pos h]
theorem liveIn_no {L : List Ent} {b k : Nat} (h : ¬ isLive L b k) : liveIn L b (k + 1) = liveIn L b k := by
  show liveIn L b k ++ (if isLive L b k then [k] else []) = _
  rw [if_neg h, List.append_nil]
theorem liveIn_mem {L : List Ent} {b k i : Nat} (h : i ∈ liveIn L b k) : i < k ∧ isLive L b i := by
  induction k with
  | zero => cases h
  | succ k ih =>
    by_cases hl : isLive L b k
    · rw [liveIn_yes hl] at h
      rcases List.mem_append.1 h with h | h
      · exact ⟨by have := (ih h).1; omega, (ih h).2⟩
      · rw [List.mem_singleton.1 h]
        exact ⟨by omega, hl⟩
    · rw [liveIn_no hl] at h
      exact ⟨by have := (ih h).1; omega, (ih h).2⟩

/-! the two flashes -/

/-- all pages but those that P names have their last writing where the flash says -/
structure SimP (s : Fl) (r : RF) (P : Nat → Prop) : Prop where
  row : ∀ b, b < 6 → s.row b = sub r.L b
  mlen : r.many.length = 6
  many : ∀ b, b < 6 → r.many[b]? = some (s.row b).length
  er : r.er = s.er
  act : r.act = s.act
  loc : ∀ p, p < 8 → ¬ P p → (lastOf r.L p = -1 ∧ s.loc[p]? = some (-1, 0)) ∨
    ∃ (i b : Nat) (e : Ent), lastOf r.L p = (i : Int) ∧ b < 6 ∧ r.L[i]? = some e ∧ e.1 = (b : Int) ∧ e.2.1 = p ∧ s.loc[p]? = some ((b : Int), (sub (r.L.take i) b).length)
abbrev Sim (s : Fl) (r : RF) : Prop := SimP s r fun _ => False

theorem SimP.weaken {s : Fl} {r : RF} {P Q : Nat → Prop} (h : SimP s r P) (hpq : ∀ p, p < 8 → P p → Q p) : SimP s r Q :=
  ⟨h.row, h.mlen, h.many, h.er, h.act, fun p hp hn => h.loc p hp fun hP => hn (hpq p hp hP)⟩
theorem SimP.manyAt {s : Fl} {r : RF} {P : Nat → Prop} (h : SimP s r P) {b : Nat} (hb : b < 6) : r.manyAt b = (s.row b).length := by unfold RF.manyAt; rw [h.many b hb]; rfl
theorem SimP.erAt {s : Fl} {r : RF} {P : Nat → Prop} (h : SimP s r P) : r.erAt = s.times := by funext b; unfold RF.erAt Fl.times; rw [h.er]

theorem sim_new : Sim Fl.new RF.new := by
  have hr : ∀ b, Fl.new.row b = [] := fun b => by simp only [Fl.row, Fl.new, List.getElem?_replicate]; split <;> rfl
  refine ⟨fun b _ => hr b, rfl, fun b hb => ?_, rfl, rfl, fun p hp _ => .inl ⟨rfl, ?_⟩⟩
  · rw [hr]
    unfold RF.new
    simp only [List.getElem?_replicate]
    rw [if_pos hb]
    rfl
  · simp only [Fl.new, List.getElem?_replicate]; rw [if_pos hp]

theorem SimP.down {s : Fl} {r : RF} {P : Nat → Prop} (h : SimP s r P) (hb : s.blk.length = 6) (hl : s.loc.length = 8) (ha : s.act < 6) {p : Page} (hp : p.1 < 8) : SimP (s.down p) (r.down p) fun q => P q ∧ q ≠ p.1 := by
  have hr : ∀ c, (s.down p).row c = if s.act = c then s.row s.act ++ [p] else s.row c := fun c => Fl.row_set s s.act c _ _ _ _ (by rw [hb]; exact ha)
  have hact := h.act
  refine ⟨fun b hb6 => ?_, by simp [RF.down, h.mlen], fun b hb6 => ?_, h.er, h.act, fun q hq hn => ?_⟩
  · show _ = sub (r.L ++ [((r.act : Int), p)]) b
    rw [hr, sub_snoc, hact, ← h.row b hb6]
    by_cases e : s.act = b
    · subst e
      rw [if_pos rfl, if_pos rfl]
    · rw [if_neg e, if_neg (by simp only; omega), List.append_nil]
  · show (r.many.set r.act (r.manyAt r.act + 1))[b]? = _
    rw [hr, hact, h.manyAt ha]
    by_cases e : s.act = b
    · subst e
      rw [if_pos rfl, List.getElem?_set_self (by rw [h.mlen]; exact hb6), List.length_append]
      rfl
    · rw [if_neg e, List.getElem?_set_ne e]
      exact h.many b hb6
  · show (lastOf (r.L ++ [((r.act : Int), p)]) q = -1 ∧ _) ∨ ∃ (i b : Nat) (e : Ent), lastOf (r.L ++ [((r.act : Int), p)]) q = (i : Int) ∧ b < 6 ∧ (r.L ++ [((r.act : Int), p)])[i]? = some e ∧ e.1 = (b : Int) ∧ e.2.1 = q ∧ _ = some ((b : Int), (sub ((r.L ++ [((r.act : Int), p)]).take i) b).length)
    rw [lastOf_snoc]
    by_cases hqp : p.1 = q
    · subst hqp
      rw [if_pos rfl]
      refine .inr ⟨r.L.length, r.act, _, rfl, by rw [hact]; exact ha, List.getElem?_concat_length, rfl, rfl, ?_⟩
      rw [List.take_left', ← h.row _ (by rw [hact]; exact ha), hact]
      · simp [Fl.down, hl, hp]
      · rfl
    · rw [if_neg hqp]
      have hloc : (s.down p).loc[q]? = s.loc[q]? := by simp only [Fl.down]; rw [List.getElem?_set_ne hqp]
      rw [hloc]
      rcases h.loc q hq (fun hP => hn ⟨hP, fun e => hqp e.symm⟩) with h1 | ⟨i, b, e, h1, h2, h3, h4, h5, h6⟩
      · exact .inl h1
      · have hi := (List.getElem?_eq_some_iff.1 h3).1
        refine .inr ⟨i, b, e, h1, h2, ?_, h4, h5, ?_⟩
        · rw [List.getElem?_append_left hi]; exact h3
        · rw [List.take_append_of_le_length (by omega)]; exact h6

/-- what lives -/
theorem SimP.liveTo {s : Fl} {r : RF} (h : Sim s r) (hok : Ok s) {b : Nat} (hb : b < 6) : ∀ k, k ≤ r.L.length → (liveIn r.L b k).map (pageAt r.L) = s.liveTo b (sub (r.L.take k) b).length := by
  intro k
  induction k with
  | zero => intro _; rfl
  | succ k ih =>
    intro hk
    have ih := ih (by omega)
    obtain ⟨e, he⟩ : ∃ e, r.L[k]? = some e := ⟨_, List.getElem?_eq_getElem (by omega)⟩
    have hpa : pageAt r.L k = e.2 := by unfold pageAt; rw [he]; rfl
    rw [sub_take he]
    by_cases heb : e.1 = (b : Int)
    · rw [if_pos heb, List.length_append, List.length_singleton]
      have hrow := sub_at he heb
      rw [← h.row b hb] at hrow
      have hq8 := hok.page b e.2 (List.mem_of_getElem? hrow)
      have hge : (k : Int) ≤ lastOf r.L e.2.1 := lastIn_ge _ _ (by omega) (by rw [he]; rfl)
      have key : s.loc[e.2.1]? = some ((b : Int), (sub (r.L.take k) b).length) ↔ isLive r.L b k := by
        unfold isLive
        rw [hpa, he]
        rcases h.loc e.2.1 hq8 (by simp) with ⟨h1, -⟩ | ⟨i, c, f, h1, h2, h3, h4, h5, h6⟩
        · omega
        · rw [h6, h1]
          constructor
          · intro hh
            simp only [Option.some.injEq, Prod.mk.injEq] at hh
            obtain ⟨hc, hn⟩ := hh
            obtain rfl : c = b := by omega
            exact ⟨by rw [Option.map_some, heb], by rw [sub_inj h3 he h4 heb hn]⟩
          · rintro ⟨-, hik⟩
            obtain rfl : i = k := by omega
            rw [he] at h3
            obtain rfl := Option.some.inj h3
            have hcb : c = b := by omega
            rw [hcb]
      by_cases hlv : isLive r.L b k
      · rw [liveIn_yes hlv, List.map_append, ih, Fl.liveTo_yes hrow (key.2 hlv), List.map_singleton, hpa]
      · rw [liveIn_no hlv, ih, Fl.liveTo_no hrow (fun hh => hlv (key.1 hh))]
    · have hlv : ¬ isLive r.L b k := fun hh => by
        have := hh.1
        rw [he, Option.map_some] at this
        exact heb (Option.some.inj this)
      rw [if_neg heb, List.append_nil, liveIn_no hlv, ih]
theorem SimP.live {s : Fl} {r : RF} (h : Sim s r) (hok : Ok s) {b : Nat} (hb : b < 6) : (liveOf r.L b).map (pageAt r.L) = s.live b := by
  unfold liveOf Fl.live
  rw [h.liveTo hok hb _ (Nat.le_refl _), List.take_length, ← h.row b hb]
theorem SimP.liveN {s : Fl} {r : RF} (h : Sim s r) (hok : Ok s) {b : Nat} (hb : b < 6) : (liveOf r.L b).length = (s.live b).length := by
  rw [← h.live hok hb, List.length_map]

theorem SimP.empties {s : Fl} {r : RF} (h : Sim s r) : r.emptyTo 6 = s.empties := by
  unfold RF.emptyTo Fl.empties
  refine List.filter_congr fun b hb => ?_
  rw [h.manyAt (List.mem_range.1 hb)]
theorem SimP.best {s : Fl} {r : RF} (h : Sim s r) : r.best = s.best := by
  unfold RF.best Fl.best
  rw [h.empties, h.erAt]
theorem turn_live (s : Fl) (b : Nat) : s.turn.live b = s.live b := by
  have : ∀ k, s.turn.liveTo b k = s.liveTo b k := by
    intro k
    induction k with
    | zero => rfl
    | succ k ih => simp only [Fl.liveTo, ih]; rfl
  exact this _
theorem SimP.goneTo {s : Fl} {r : RF} (h : Sim s r) (hok : Ok s) : ∀ k, k ≤ 6 → goneTo r.L r.best k = s.turn.worstTo k := by
  intro k
  induction k with
  | zero => intro _; rfl
  | succ k ih =>
    intro hk
    have ih := ih (by omega)
    obtain ⟨h1, h2, -⟩ := Fl.worstTo_bounds s.turn k
    have hb : (s.turn.worstTo k).toNat < 6 := by omega
    unfold Ftl.goneTo Fl.worstTo
    rw [ih, h.best, h.liveN hok (by omega : k < 6), h.liveN hok hb, turn_live, turn_live]
    rfl
theorem SimP.gone {s : Fl} {r : RF} (h : Sim s r) (hok : Ok s) : r.gone = s.turn.worst := by
  unfold RF.gone Fl.worst
  rw [h.goneTo hok 6 (Nat.le_refl _)]

theorem down_marked (r : RF) (g : Nat) (hg : g ≠ r.act) (p : Page) : (r.down p).marked g = (r.marked g).down p := by
  unfold RF.down RF.marked mark
  simp only [List.map_append, List.map_cons, List.map_nil]
  rw [if_neg (by omega)]
  rfl
theorem downs_marked (ps : List Page) (g : Nat) : ∀ r : RF, g ≠ r.act → (ps.foldl RF.down r).marked g = ps.foldl RF.down (r.marked g) := by
  induction ps with
  | nil => intro r _; rfl
  | cons p ps ih =>
    intro r hg
    rw [List.foldl_cons, List.foldl_cons, ih (r.down p) hg, down_marked r g hg p]

theorem SimP.cleared {s : Fl} {r : RF} (h : Sim s r) (hok : Ok s) {wo : Nat} (hw : wo < 6) : SimP (s.turn.erase wo) ((r.cleared wo).marked wo) (fun p => ∃ v, (p, v) ∈ s.turn.live wo) := by
  have hr : ∀ c, (s.turn.erase wo).row c = if wo = c then [] else s.row c := fun c => Fl.row_set s.turn wo c _ _ _ _ (by rw [show s.turn.blk = s.blk from rfl, hok.blen]; exact hw)
  refine ⟨fun b hb => ?_, ?_, fun b hb => ?_, ?_, h.best, fun q hq hn => ?_⟩
  · show _ = sub (mark wo r.L) b
    rw [hr, sub_mark, h.row b hb]
  · show (r.many.set wo 0).length = 6
    rw [List.length_set, h.mlen]
  · show (r.many.set wo 0)[b]? = _
    rw [hr]
    by_cases e : wo = b
    · subst e
      rw [if_pos rfl, List.getElem?_set_self (by rw [h.mlen]; exact hw)]
      rfl
    · rw [if_neg e, List.getElem?_set_ne e, h.many b hb]
  · show r.er.set wo (r.erAt wo + 1) = s.er.set wo (s.turn.times wo + 1)
    rw [h.erAt, h.er]
    rfl
  · show (lastOf (mark wo r.L) q = -1 ∧ s.loc[q]? = _) ∨ ∃ (i b : Nat) (e : Ent), lastOf (mark wo r.L) q = (i : Int) ∧ b < 6 ∧ (mark wo r.L)[i]? = some e ∧ e.1 = (b : Int) ∧ e.2.1 = q ∧ s.loc[q]? = some ((b : Int), (sub ((mark wo r.L).take i) b).length)
    rw [lastOf_mark]
    rcases h.loc q hq (by simp) with h1 | ⟨i, b, e, h1, h2, h3, h4, h5, h6⟩
    · exact .inl h1
    · have hne : wo ≠ b := by
        rintro rfl
        have h7 := sub_at h3 h4
        rw [← h.row _ h2] at h7
        have h8 : e.2 ∈ s.turn.live wo := Fl.mem_live.2 ⟨_, h7, by rw [h5]; exact h6⟩
        exact hn ⟨e.2.2, by rw [← h5]; exact h8⟩
      refine .inr ⟨i, b, e, h1, h2, ?_, h4, h5, ?_⟩
      · rw [mark_at h3, if_neg (by omega)]
      · rw [mark_take, sub_mark, if_neg hne]; exact h6

theorem SimP.next {s : Fl} {r : RF} (h : Sim s r) (hok : Ok s) (hf : (s.row s.act).length = 4) : Sim s.next r.next := by
  unfold Fl.next RF.next
  rw [h.empties]
  have hne := hok.empties_ne
  have hpos : 0 < s.empties.length := List.length_pos_iff.2 hne
  by_cases hm : 1 < s.empties.length
  · rw [if_pos hm, if_neg (by omega)]
    exact ⟨h.row, h.mlen, h.many, h.er, h.best, h.loc⟩
  · rw [if_neg hm, if_pos (by omega)]
    obtain ⟨e1, e2, e3, e4⟩ := hok.erased hf (by omega)
    obtain ⟨w6, wne, -, hl1⟩ := hok.worst_is hf (by omega)
    unfold RF.moved
    rw [List.take_length, h.gone hok]
    have hlv := h.live hok w6
    rw [← turn_live] at hlv
    rw [hlv, downs_marked _ _ _ (by show s.turn.worst ≠ r.best; rw [h.best]; exact wne)]
    have hc := h.cleared hok w6
    generalize s.turn.worst = wo at *
    rcases hL : s.turn.live wo with _ | ⟨p, _ | ⟨q, l⟩⟩
    · rw [hL] at hc
      exact hc.weaken (by simp)
    · rw [hL] at hc e4
      refine (hc.down e1.blen e1.llen e1.act (e4 p (by simp)).1).weaken ?_
      rintro q hq ⟨⟨v, hv⟩, hne⟩
      simp at hv
      exact hne (by rw [← hv])
    · rw [hL] at hl1; simp at hl1

theorem SimP.write {s : Fl} {r : RF} (h : Sim s r) (hok : Ok s) {p : Page} (hp : p.1 < 8) : Sim (s.write p) (r.write p) := by
  unfold Fl.write RF.write
  rw [h.act, h.manyAt hok.act]
  by_cases hf : (s.row s.act).length = 4
  · rw [if_pos hf, if_pos hf]
    have ho := (hok.next hf).1
    exact ((h.next hok hf).down ho.blen ho.llen ho.act hp).weaken (by simp)
  · rw [if_neg hf, if_neg hf]
    exact (h.down hok.blen hok.llen hok.act hp).weaken (by simp)

/-- what is read -/
theorem SimP.val {s : Fl} {r : RF} (h : Sim s r) {p : Nat} (hp : p < 8) : (lastOf r.L p = -1 ∧ s.val p = 0) ∨ ∃ (i : Nat) (e : Ent), lastOf r.L p = (i : Int) ∧ r.L[i]? = some e ∧ s.val p = e.2.2 := by
  unfold Fl.val
  rcases h.loc p hp (by simp) with ⟨h1, h2⟩ | ⟨i, b, e, h1, h2, h3, h4, h5, h6⟩
  · exact .inl ⟨h1, by rw [h2]; rfl⟩
  · refine .inr ⟨i, e, h1, h3, ?_⟩
    rw [h6]
    simp only [Int.toNat_natCast]
    rw [if_neg (by omega), h.row b h2, sub_at h3 h4]
    rfl

/-! how long it grows -/

theorem downs_len (ps : List Page) : ∀ r : RF, (ps.foldl RF.down r).L.length = r.L.length + ps.length := by
  induction ps with
  | nil => intro r; rfl
  | cons p ps ih =>
    intro r
    rw [List.foldl_cons, ih]
    simp [RF.down]
    omega
theorem SimP.write_len {s : Fl} {r : RF} (h : Sim s r) (hok : Ok s) (p : Page) : (r.write p).L.length ≤ r.L.length + 2 := by
  have h1 : (if r.manyAt r.act = 4 then r.next else r).L.length ≤ r.L.length + 1 := by
    split
    · rename_i hf
      rw [h.act, h.manyAt hok.act] at hf
      unfold RF.next
      split
      · rename_i he
        rw [h.empties] at he
        obtain ⟨w6, wne, -, hl1⟩ := hok.worst_is hf (by omega)
        have hn := h.liveN hok w6
        rw [← turn_live] at hn
        show (mark r.gone (r.moved (liveOf r.L r.gone).length).L).length ≤ _
        rw [mark_length]
        unfold RF.moved
        rw [List.take_length, downs_len, List.length_map, h.gone hok, hn]
        show r.L.length + _ ≤ _
        omega
      · exact Nat.le_succ _
    · exact Nat.le_succ _
  unfold RF.write
  generalize (if r.manyAt r.act = 4 then r.next else r) = x at h1 ⊢
  simp [RF.down]
  omega

end Go.Proofs.YtegibgflhhdddaaDoor.Ftl
