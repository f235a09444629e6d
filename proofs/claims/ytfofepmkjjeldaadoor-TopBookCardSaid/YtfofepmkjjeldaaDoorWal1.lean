/- The log ahead: what it is in plain lists and in memory. -/
import Derived.Test.YtfofepmkjjeldaaDoorBookTwo
import Derived.Test.YtfofepmkjjeldaaDoorAtomicMath
import Derived.MapKept
import Derived.ProofKit
import Derived.Laws.OwnMore
namespace Go.Proofs.YtfofepmkjjeldaaDoor
open Go.RowKit Go.MapKept
open Go.ChangeMaps (setBlock)

structure Rec where
  turn : Nat
  blk : Nat
  val : Nat
  fin : Bool

def putR (t : Nat) (B : List Nat) (r : Rec) : List Nat := if r.fin = false ∧ r.turn = t then B.set r.blk r.val else B
def putsTo (L : List Rec) (t : Nat) (B : List Nat) : List Nat := L.foldl (putR t) B
/-- the values by the first i records -/
def valsTo (L : List Rec) : Nat → List Nat
  | 0 => List.replicate 8 0
  | i + 1 => match L[i]? with
    | none => valsTo L i
    | some r => if r.fin = true then putsTo (L.take i) r.turn (valsTo L i) else valsTo L i
def vals (L : List Rec) : List Nat := valsTo L L.length

theorem valsTo_succ (L : List Rec) (i : Nat) : valsTo L (i + 1) = match L[i]? with
    | none => valsTo L i
    | some r => if r.fin = true then putsTo (L.take i) r.turn (valsTo L i) else valsTo L i := rfl
theorem valsTo_more (L M : List Rec) : ∀ i, i ≤ L.length → valsTo (L ++ M) i = valsTo L i := by
  intro i
  induction i with
  | zero => intro _; rfl
  | succ i ih =>
    intro h
    unfold valsTo
    rw [List.getElem?_append_left (by omega), List.take_append_of_le_length (by omega), ih (by omega)]
theorem vals_write (L : List Rec) (t p v : Nat) : vals (L ++ [⟨t, p, v, false⟩]) = vals L := by
  unfold vals
  rw [List.length_append, List.length_cons, List.length_nil]
  show valsTo _ (L.length + 1) = _
  rw [valsTo_succ, List.getElem?_append_right (Nat.le_refl _), Nat.sub_self]
  simp only [List.getElem?_cons_zero]
  rw [if_neg (by decide), valsTo_more L _ _ (Nat.le_refl _)]
theorem vals_end (L : List Rec) (t : Nat) : vals (L ++ [⟨t, 0, 0, true⟩]) = putsTo L t (vals L) := by
  unfold vals
  rw [List.length_append, List.length_cons, List.length_nil]
  show valsTo _ (L.length + 1) = _
  rw [valsTo_succ, List.getElem?_append_right (Nat.le_refl _), Nat.sub_self]
  simp only [List.getElem?_cons_zero]
  rw [if_pos trivial, valsTo_more L _ _ (Nat.le_refl _), List.take_append_of_le_length (Nat.le_refl _), List.take_length]

theorem putsTo_len (L : List Rec) (t : Nat) : ∀ B : List Nat, (putsTo L t B).length = B.length := by
  induction L with
  | nil => intro B; rfl
  | cons r L ih =>
    intro B
    unfold putsTo at *
    rw [List.foldl_cons, ih]
    unfold putR
    split
    · rw [List.length_set]
    · rfl
theorem valsTo_len (L : List Rec) : ∀ i, (valsTo L i).length = 8 := by
  intro i
  induction i with
  | zero => rfl
  | succ i ih =>
    unfold valsTo
    split
    · exact ih
    · split
      · rw [putsTo_len]; exact ih
      · exact ih
theorem putsTo_snoc {L : List Rec} {j : Nat} {r : Rec} (h : L[j]? = some r) (t : Nat) (B : List Nat) : putsTo (L.take (j + 1)) t B = putR t (putsTo (L.take j) t B) r := by
  unfold putsTo
  rw [List.take_succ_eq_append_getElem (List.getElem?_eq_some_iff.1 h).1, List.foldl_append, (List.getElem?_eq_some_iff.1 h).2]
  rfl

/-- the writes of a turn -/
def ofTurn (L : List Rec) (t : Nat) : List (Nat × Nat) := (L.filter fun r => !r.fin && decide (r.turn = t)).map fun r => (r.blk, r.val)
theorem putsTo_group (L : List Rec) (t : Nat) : ∀ B : List Nat, putsTo L t B = applyG B (ofTurn L t) := by
  induction L with
  | nil => intro B; rfl
  | cons r L ih =>
    intro B
    unfold putsTo at *
    rw [List.foldl_cons, ih]
    unfold putR ofTurn applyG
    by_cases h : r.fin = false ∧ r.turn = t
    · rw [if_pos h, List.filter_cons_of_pos (by simp [h.1, h.2])]
      rfl
    · rw [if_neg h, List.filter_cons_of_neg (by
        intro e
        simp at e
        exact h ⟨e.1, e.2⟩)]
theorem ofTurn_write (L : List Rec) (t p v : Nat) : ofTurn (L ++ [⟨t, p, v, false⟩]) t = ofTurn L t ++ [(p, v)] := by
  unfold ofTurn
  simp
theorem ofTurn_new {L : List Rec} {t : Nat} (h : ∀ r ∈ L, r.turn < t) : ofTurn L t = [] := by
  unfold ofTurn
  rw [List.filter_eq_nil_iff.2]
  · rfl
  · intro r hr
    have := h r hr
    simp
    intro _
    omega

def recV (r : Rec) : List Value := [.int .i64 (r.turn : Nat), .int .i64 (r.blk : Nat), .int .i64 (r.val : Nat), .bool r.fin]
def recsV (L : List Rec) : List Value := (L.map recV).flatten
theorem recsV_length (L : List Rec) : (recsV L).length = L.length * 4 := by
  unfold recsV
  induction L with
  | nil => rfl
  | cons r L ih => simp only [List.map_cons, List.flatten_cons, List.length_append, List.length_cons, ih, recV, List.length_nil]; omega
theorem recsV_snoc (L : List Rec) (r : Rec) : recsV (L ++ [r]) = recsV L ++ recV r := by simp [recsV]
theorem recsV_at : ∀ (L : List Rec) (i : Nat) (r : Rec), L[i]? = some r → (recsV L)[i * 4]? = some (.int .i64 (r.turn : Nat)) ∧ (recsV L)[i * 4 + 1]? = some (.int .i64 (r.blk : Nat)) ∧ (recsV L)[i * 4 + 2]? = some (.int .i64 (r.val : Nat)) ∧ (recsV L)[i * 4 + 3]? = some (.bool r.fin)
  | [], i, r, h => by simp at h
  | a :: L, 0, r, h => by
    simp at h
    subst h
    simp [recsV, recV]
  | a :: L, i + 1, r, h => by
    simp at h
    have ih := recsV_at L i r h
    have e : ∀ j, (recsV (a :: L))[j + 4]? = (recsV L)[j]? := fun j => by simp [recsV, recV]
    rw [show (i + 1) * 4 = i * 4 + 4 by omega, show i * 4 + 4 + 1 = (i * 4 + 1) + 4 by omega, show i * 4 + 4 + 2 = (i * 4 + 2) + 4 by omega, show i * 4 + 4 + 3 = (i * 4 + 3) + 4 by omega, e, e, e, e]
    exact ih

def diskCells (v : Value) (bm : Nat) : Array Value := #[.int .i64 0, .int .i64 0, .int .i64 0, .int .i64 0, .int .i64 0, .int .i64 0, .int .i64 0, .int .i64 0, v, .int .i64 0, .map (some bm)]
def eent (e : Nat × Nat) : MapEntry := { key := .int .i64 (e.1 : Nat), val := .bool true, born := e.2 }
def eents (E : List (Nat × Nat)) : Array MapEntry := (E.map eent).toArray

structure DiskAt (w : World) (bm gw : Nat) (L : List Rec) (E : List (Nat × Nat)) : Prop where
  cells : ∃ v, w.heap[gw]? = some (.cells (diskCells v bm) 83 (0, 0)) ∧ w.ownsRow (gw + 1) 86 4 v L.length (recsV L)
  map : ∃ c, w.heap[bm]? = some (.map (eents E) c)
  lt : bm < gw

/-- what work on the disk leaves as it is -/
structure WFrame (w w' : World) (bm : Nat) : Prop where
  size : w.heap.size ≤ w'.heap.size
  below : ∀ B, B ≤ bm → Below B w w'
  kept : ∀ (x : Nat) cs t fr, w.heap[x]? = some (.cells cs t fr) → t ≠ 83 → t ≠ 86 → w'.heap[x]? = w.heap[x]?

theorem WFrame.refl (w : World) (bm : Nat) : WFrame w w bm := ⟨Nat.le_refl _, fun _ _ => Below.refl _ _, fun _ _ _ _ _ _ _ => rfl⟩
theorem WFrame.trans {w1 w2 w3 : World} {bm : Nat} (h : WFrame w1 w2 bm) (k : WFrame w2 w3 bm) : WFrame w1 w3 bm :=
  ⟨Nat.le_trans h.size k.size, fun B hB => (h.below B hB).trans (k.below B hB), fun x cs t fr hx h1 h2 => by
    have e := h.kept x cs t fr hx h1 h2
    exact (k.kept x cs t fr (e.trans hx) h1 h2).trans e⟩
theorem WFrame.of_below {w w' : World} (bm : Nat) (hb : Below w.heap.size w w') (hbm : bm ≤ w.heap.size) : WFrame w w' bm :=
  ⟨hb.size, fun _ hB => hb.mono (Nat.le_trans hB hbm), fun x _ _ _ hx _ _ => hb.block x (Array.getElem?_eq_some_iff.1 hx).1⟩

theorem DiskAt.glt {w : World} {bm gw : Nat} {L : List Rec} {E : List (Nat × Nat)} (h : DiskAt w bm gw L E) : gw < w.heap.size := by
  obtain ⟨v, hv, -⟩ := h.cells
  exact (Array.getElem?_eq_some_iff.1 hv).1
/-- where its blocks stay it stays -/
theorem DiskAt.keep {w w' : World} {bm gw : Nat} {L : List Rec} {E : List (Nat × Nat)} (h : DiskAt w bm gw L E)
    (hk : ∀ (x : Nat) (o : Obj), w.heap[x]? = some o → (∀ cs t fr, o = .cells cs t fr → t = 83 ∨ t = 86) → w'.heap[x]? = w.heap[x]?) : DiskAt w' bm gw L E := by
  obtain ⟨v, hv, hown⟩ := h.cells
  obtain ⟨c, hc⟩ := h.map
  refine ⟨⟨v, (hk gw _ hv (fun cs t fr e => by cases e; exact .inl rfl)).trans hv, ownsRow_block hown (fun k hk' => ?_)⟩, ⟨c, (hk bm _ hc (fun cs t fr e => by cases e)).trans hc⟩, h.lt⟩
  rcases hown.2 with ⟨rfl, -⟩ | ⟨g', cap', cur, rfl, -, hh, -⟩
  · cases hk'
  · cases hk'
    exact hk _ _ hh (fun cs t fr e => by cases e; exact .inr rfl)
theorem DiskAt.later {w w' : World} {bm gw : Nat} {L : List Rec} {E : List (Nat × Nat)} (h : DiskAt w bm gw L E) (hb : Below w.heap.size w w') : DiskAt w' bm gw L E :=
  h.keep (fun x _ hx _ => hb.block x (Array.getElem?_eq_some_iff.1 hx).1)
/-- work on a book leaves it -/
theorem DiskAt.booked {w w' : World} {bm gw g : Nat} {L : List Rec} {E : List (Nat × Nat)} {b : Bk} (h : DiskAt w bm gw L E) (hb : BookIs w g b) (hf : BkFrame w w' g) : DiskAt w' bm gw L E :=
  h.keep (fun x o hx ho => hf.blocks x (Array.getElem?_eq_some_iff.1 hx).1 (fun hown => by
    obtain ⟨cs, t, fr, hh, ht⟩ := hb.own_cells hown
    rw [hx] at hh
    cases hh
    rcases ho _ _ _ rfl with e | e <;> subst e <;> rcases ht with ht | ht | ht <;> exact absurd ht (by decide)))
/-- work on it leaves a book -/
theorem BookAt.waled {w w' : World} {bm g : Nat} {b : Bk} (h : BookIs w g b) (hf : WFrame w w' bm) : BookIs w' g b :=
  (h.keep hf.size (fun x hx => by
    obtain ⟨cs, t, fr, hh, ht⟩ := h.own_cells hx
    exact hf.kept x cs t fr hh (by rcases ht with e | e | e <;> subst e <;> decide) (by rcases ht with e | e | e <;> subst e <;> decide))).1

/-! the map of turns that have ended -/
theorem find_eents (E : List (Nat × Nat)) (t : Nat) (w : World) (hn : ∀ e ∈ E, e.1 ≠ t) : (Instr.findKey 3 (.int .i64 (t : Nat)) (eents E).toList).run Tryd.prog w = .ok none w := by
  have hks : ∀ x ∈ (eents E).toList, IsKey (.int .i64) x.key := fun x hx => by
    simp [eents] at hx
    obtain ⟨a, b, -, rfl⟩ := hx
    rfl
  rcases findNow_spec (d := .int .i64) (k := .int .i64 (t : Nat)) rfl (eents E).toList 0 hks with ⟨h1, h2⟩ | ⟨j, e, h1, h2, h3⟩
  · exact run_findKey Tryd.underlying3 h1
  · simp only [eents, List.getElem?_map, Option.map_eq_some_iff] at h2
    obtain ⟨e', he', rfl⟩ := h2
    simp only [eent, Value.int.injEq, true_and] at h3
    exact absurd (by omega) (hn e' (List.mem_of_getElem? he'))
theorem check_eents (em : Bool) (t : Int) (w : World) : (Instr.checkKey em 10000 3 (.int .i64 t)).run Tryd.prog w = .ok () w := MapKept.run_checkKey (d := .int .i64) (k := .int .i64 t) Tryd.underlying3 rfl em 9999
theorem zeroB (w : World) : (zeroValue 4).run Tryd.prog w = .ok (.bool false) w := by kernel_rfl
theorem look_eents {w : World} {z c : Nat} (E : List (Nat × Nat)) (t : Nat) (hb : w.heap[z]? = some (.map (eents E) c)) (hn : ∀ e ∈ E, e.1 ≠ t) :
    (Instr.lookup 80 (.map (some z)) (.int .i64 (t : Nat)) false).run Tryd.prog w = .ok (.bool false) w := by
  have hck := fun em => check_eents em (t : Nat) w
  have h1 := find_eents E t w hn
  simp [Instr.lookup, run_underlying Tryd.underlying80, MapKept.run_getObj_map hb, hck, h1, zeroB, Result.andThen]
theorem update_eents {w : World} {z c : Nat} (E : List (Nat × Nat)) (t : Nat) (hb : w.heap[z]? = some (.map (eents E) c)) (hn : ∀ e ∈ E, e.1 ≠ t) :
    (Instr.mapUpdate 80 (.map (some z)) (.int .i64 (t : Nat)) (.bool true)).run Tryd.prog w = .ok () (setBlock w z (.map (eents (E ++ [(t, c)])) (c + 1))) := by
  have hck := check_eents false (t : Nat) w
  have h1 := find_eents E t w hn
  have h4 : (eents E).push { key := .int .i64 (t : Nat), val := .bool true, born := c } = eents (E ++ [(t, c)]) := by simp [eents, eent]
  simp [Instr.mapUpdate, run_underlying Tryd.underlying80, MapKept.run_getObj_map hb, hck, h1, run_setObj_map _ hb, Result.andThen, setBlock, h4]

end Go.Proofs.YtfofepmkjjeldaaDoor
