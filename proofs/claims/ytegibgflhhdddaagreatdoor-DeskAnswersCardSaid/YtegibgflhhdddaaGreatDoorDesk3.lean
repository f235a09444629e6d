/- A line of a session. -/
import Derived.Test.YtegibgflhhdddaaGreatDoorDesk2
import Derived.MapKept
import Derived.ProofKit
import Derived.Laws.OwnMore
namespace Go.Proofs.YtegibgflhhdddaaGreatDoor
open Go.RowKit Go.Shelf Go.MapKept
open Go.ChangeMaps (setBlock)

def kWrite : ByteArray := ⟨#[119, 114, 105, 116, 101]⟩
def kDo : ByteArray := ⟨#[100, 111]⟩
def kRead : ByteArray := ⟨#[114, 101, 97, 100]⟩
def kWaits : ByteArray := ⟨#[119, 97, 105, 116, 115]⟩
def kCrash : ByteArray := ⟨#[99, 114, 97, 115, 104]⟩
/-- a verb: how many numbers, and what it does -/
def verbV (n : Nat) (f : FuncId) : Value := .agg #[.int .i64 (n : Nat), .func (.func f) #[] #[]]
def vent (e : ByteArray × Nat × FuncId × Nat) : MapEntry := { key := .string e.1, val := verbV e.2.1 e.2.2.1, born := e.2.2.2 }
def verbs : List (ByteArray × Nat × FuncId × Nat) :=
  [(kWrite, 2, 18, 0), (kDo, 0, 19, 1), (kRead, 1, 20, 2), (kWaits, 0, 21, 3), (kCrash, 1, 22, 4)]
def vents (L : List (ByteArray × Nat × FuncId × Nat)) : Array MapEntry := (L.map vent).toArray

theorem find_vents (L : List (ByteArray × Nat × FuncId × Nat)) (t : ByteArray) (w : World) :
    ((Instr.findKey 9 (.string t) (vents L).toList).run Tryz.prog w = .ok none w ∧ ∀ e ∈ L, e.1 ≠ t) ∨
    ∃ (j : Nat) (e : ByteArray × Nat × FuncId × Nat), (Instr.findKey 9 (.string t) (vents L).toList).run Tryz.prog w = .ok (some (j, verbV e.2.1 e.2.2.1)) w ∧ L[j]? = some e ∧ e.1 = t := by
  have hks : ∀ x ∈ (vents L).toList, IsKey .string x.key := fun x hx => by
    simp [vents] at hx
    obtain ⟨a, b, c, d, -, rfl⟩ := hx
    trivial
  rcases findNow_spec (d := .string) (k := .string t) trivial (vents L).toList 0 hks with ⟨h1, h2⟩ | ⟨j, e, h1, h2, h3⟩
  · refine .inl ⟨run_findKey Tryz.underlying9 h1, fun e he hne => h2 (vent e) (by simp [vents]; exact ⟨_, _, _, _, he, rfl⟩) (by rw [← hne]; rfl)⟩
  · simp only [vents, List.getElem?_map, Option.map_eq_some_iff] at h2
    obtain ⟨e', he', rfl⟩ := h2
    refine .inr ⟨j, e', by simpa [vent] using run_findKey (P := Tryz.prog) (w := w) Tryz.underlying9 h1, he', ?_⟩
    simpa [vent] using h3

theorem check_vents (em : Bool) (t : ByteArray) (w : World) : (Instr.checkKey em 10000 9 (.string t)).run Tryz.prog w = .ok () w := MapKept.run_checkKey (d := .string) (k := .string t) Tryz.underlying9 trivial em 9999

theorem zeroVerb (w : World) : (zeroValue 57).run Tryz.prog w = .ok (.agg #[.int .i64 0, .nilFunc]) w := by kernel_rfl

theorem setBlock_at {w : World} {b : Nat} (o : Obj) (h : b < w.heap.size) : (setBlock w b o).heap[b]? = some o := by
  unfold setBlock
  simp [h]
theorem setBlock_twice (w : World) (b : Nat) (o o' : Obj) : setBlock (setBlock w b o) b o' = setBlock w b o' := by simp [setBlock]
theorem setBlock_other (w : World) {b x : Nat} (o : Obj) (h : x ≠ b) : (setBlock w b o).heap[x]? = w.heap[x]? := by
  unfold setBlock
  simp [Ne.symm h]
theorem setBlock_size (w : World) (b : Nat) (o : Obj) : (setBlock w b o).heap.size = w.heap.size := by simp [setBlock]

/-- an entry more -/
theorem update_vents {w : World} {z c : Nat} (L : List (ByteArray × Nat × FuncId × Nat)) (hb : w.heap[z]? = some (.map (vents L) c)) (t : ByteArray) (n : Nat) (f : FuncId) (hn : ∀ e ∈ L, e.1 ≠ t) :
    (Instr.mapUpdate 58 (.map (some z)) (.string t) (verbV n f)).run Tryz.prog w = .ok () (setBlock w z (.map (vents (L ++ [(t, n, f, c)])) (c + 1))) := by
  have hck := check_vents false t w
  rcases find_vents L t w with ⟨h1, h2⟩ | ⟨j, e, h1, h2, h3⟩
  · have h4 : (vents L).push { key := .string t, val := verbV n f, born := c } = vents (L ++ [(t, n, f, c)]) := by simp [vents, vent]
    simp [Instr.mapUpdate, run_underlying Tryz.underlying58, MapKept.run_getObj_map hb, hck, h1, run_setObj_map _ hb, Result.andThen, setBlock, h4]
  · exact absurd h3 (hn e (List.mem_of_getElem? h2))

/-- the map of the verbs, made in world w -/
def verbW (w : World) (L : List (ByteArray × Nat × FuncId × Nat)) : World := setBlock (w.alloc (.map #[] 0)) w.heap.size (.map (vents L) L.length)
theorem verbW_nil (w : World) : (w.alloc (.map #[] 0)).heap[w.heap.size]? = some (.map (vents []) 0) := heap_alloc_new w _
theorem verbW_at (w : World) (L : List (ByteArray × Nat × FuncId × Nat)) : (verbW w L).heap[w.heap.size]? = some (.map (vents L) L.length) := setBlock_at _ (by simp)
theorem verb_first (w : World) (t : ByteArray) (n : Nat) (f : FuncId) :
    (Instr.mapUpdate 58 (.map (some w.heap.size)) (.string t) (verbV n f)).run Tryz.prog (w.alloc (.map #[] 0)) = .ok () (verbW w [(t, n, f, 0)]) :=
  update_vents [] (verbW_nil w) t n f (by simp)
theorem verb_more (w : World) (L : List (ByteArray × Nat × FuncId × Nat)) (t : ByteArray) (n : Nat) (f : FuncId) (hn : ∀ e ∈ L, e.1 ≠ t) :
    (Instr.mapUpdate 58 (.map (some w.heap.size)) (.string t) (verbV n f)).run Tryz.prog (verbW w L) = .ok () (verbW w (L ++ [(t, n, f, L.length)])) := by
  rw [update_vents L (verbW_at w L) t n f hn]
  unfold verbW
  rw [setBlock_twice]
  simp
theorem verbW_below (w : World) (L : List (ByteArray × Nat × FuncId × Nat)) : Below w.heap.size w (verbW w L) := by
  have h1 : Below w.heap.size w (w.alloc (.map #[] 0)) := (Below.refl _ _).alloc (Nat.le_refl _) _
  have h2 : Below w.heap.size (w.alloc (.map #[] 0)) (verbW w L) := ⟨rfl, rfl, rfl, by unfold verbW; rw [setBlock_size]; exact Nat.le_refl _, fun x hx => setBlock_other _ _ (by omega)⟩
  exact h1.trans h2

/-- the look-up of a verb -/
theorem look_verbs {w : World} {z c : Nat} (L : List (ByteArray × Nat × FuncId × Nat)) (t : ByteArray) (hb : w.heap[z]? = some (.map (vents L) c)) :
    ((Instr.lookup 58 (.map (some z)) (.string t) true).run Tryz.prog w = .ok (.tuple #[.agg #[.int .i64 0, .nilFunc], .bool false]) w ∧ ∀ e ∈ L, e.1 ≠ t) ∨
    ∃ e ∈ L, (Instr.lookup 58 (.map (some z)) (.string t) true).run Tryz.prog w = .ok (.tuple #[verbV e.2.1 e.2.2.1, .bool true]) w ∧ e.1 = t := by
  have hck := fun em => check_vents em t w
  rcases find_vents L t w with ⟨h1, h2⟩ | ⟨j, e, h1, h2, h3⟩
  · exact .inl ⟨by simp [Instr.lookup, run_underlying Tryz.underlying58, MapKept.run_getObj_map hb, hck, h1, zeroVerb, Result.andThen], h2⟩
  · exact .inr ⟨e, List.mem_of_getElem? h2, by simp [Instr.lookup, run_underlying Tryz.underlying58, MapKept.run_getObj_map hb, hck, h1, Result.andThen], h3⟩

theorem own_int_far {w : World} {g y base n c : Nat} {b : Bk} {L : List Int} (h : BookIs w g b) (hy : w.ownsRow base 3 1 (.slice (some ⟨y, 0, none⟩) n c) n (ints L)) : ¬ BkOwn w g y := by
  rcases hy.2 with ⟨e, -⟩ | ⟨y', cap, cur, e, -, hh, -⟩
  · cases e
  · cases e
    exact (int_far h hh).2

theorem reqOf_bad {h : List UInt8} {ns : List Nat} (h1 : ¬ (h = [119, 114, 105, 116, 101] ∧ ns.length = 2)) (h2 : ¬ (h = [100, 111] ∧ ns.length = 0)) (h3 : ¬ (h = [114, 101, 97, 100] ∧ ns.length = 1)) (h4 : ¬ (h = [119, 97, 105, 116, 115] ∧ ns.length = 0)) (h5 : ¬ (h = [99, 114, 97, 115, 104] ∧ ns.length = 1)) : reqOf h ns = .bad := by
  unfold reqOf
  rw [if_neg h1, if_neg h2, if_neg h3, if_neg h4, if_neg h5]

theorem req_none {l x : List UInt8} {t : List (List UInt8)} (ht : cutAt 32 l = x :: t) (hx : smalls t = none) : req l = .bad := by
  unfold req
  rw [ht]
  simp only [List.tail_cons, hx]
theorem req_some {l x : List UInt8} {t : List (List UInt8)} {ns : List Nat} (ht : cutAt 32 l = x :: t) (hx : smalls t = some ns) : req l = reqOf x ns := by
  unfold req
  rw [ht]
  simp only [List.tail_cons, hx, List.headD_cons]

/-- of a verb that is there with another number of numbers; of a word that is none -/
theorem reqOf_other {x : ByteArray} {ns : List Nat} {k : Nat} {f : FuncId} {c : Nat} (hm : (x, k, f, c) ∈ verbs) (hk : ns.length ≠ k) : reqOf x.data.toList ns = .bad := by
  simp only [verbs, List.mem_cons, Prod.mk.injEq, List.mem_nil_iff, or_false] at hm
  rcases hm with ⟨rfl, rfl, -⟩ | ⟨rfl, rfl, -⟩ | ⟨rfl, rfl, -⟩ | ⟨rfl, rfl, -⟩ | ⟨rfl, rfl, -⟩ <;>
    (refine reqOf_bad ?_ ?_ ?_ ?_ ?_ <;> rintro ⟨e1, e2⟩ <;> first | exact hk e2 | exact absurd e1 (by decide))
theorem reqOf_no {x : ByteArray} {ns : List Nat} (hm : ∀ e ∈ verbs, e.1 ≠ x) : reqOf x.data.toList ns = .bad := by
  have key : ∀ (y : ByteArray) (l : List UInt8), y.data.toList = l → (∃ e ∈ verbs, e.1 = y) → x.data.toList ≠ l := fun y l hy ⟨e, he, h1⟩ hx => hm e he (by rw [h1]; exact str_eq (hy.trans hx.symm))
  have at' : ∀ {y : ByteArray} {k : Nat} {e : ByteArray × Nat × FuncId × Nat}, verbs[k]? = some e → e.1 = y → ∃ e ∈ verbs, e.1 = y := fun h1 h2 => ⟨_, List.mem_of_getElem? h1, h2⟩
  refine reqOf_bad (fun h => key kWrite _ rfl (at' (k := 0) rfl rfl) h.1) (fun h => key kDo _ rfl (at' (k := 1) rfl rfl) h.1) (fun h => key kRead _ rfl (at' (k := 2) rfl rfl) h.1) (fun h => key kWaits _ rfl (at' (k := 3) rfl rfl) h.1) (fun h => key kCrash _ rfl (at' (k := 4) rfl rfl) h.1)

def wBad : ByteArray := ⟨#[98, 97, 100]⟩

end Go.Proofs.YtegibgflhhdddaaGreatDoor
