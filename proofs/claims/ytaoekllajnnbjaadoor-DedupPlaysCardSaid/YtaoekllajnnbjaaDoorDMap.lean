/- A map from texts to numbers that the call has made: what a look-up, a new entry and a delete do to it. No program in sight. -/
import Derived.Test.YtaoekllajnnbjaaDoorBase
import Derived.MapKept
import Derived.ProofKit
import Derived.Laws.OwnMore
namespace Go.Proofs.YtaoekllajnnbjaaDoor
open Go.RowKit Go.MapKept
open Go.ChangeMaps (setBlock)

abbrev Ent := ByteArray × Nat × Nat
def ent (e : Ent) : MapEntry := { key := .string e.1, val := .int .i64 (e.2.1 : Nat), born := e.2.2 }
def ents (M : List Ent) : Array MapEntry := (M.map ent).toArray

section
variable {P : Program} {mt kt et : TypeId} {w : World} {b c : Nat} {M : List Ent} {t : ByteArray}

theorem find_ents (hk : P.underlying kt = some .string) (M : List Ent) (t : ByteArray) (w : World) :
    ((Instr.findKey kt (.string t) (ents M).toList).run P w = .ok none w ∧ ∀ e ∈ M, e.1 ≠ t) ∨
    ∃ (j : Nat) (e : Ent), (Instr.findKey kt (.string t) (ents M).toList).run P w = .ok (some (j, .int .i64 (e.2.1 : Nat))) w ∧ M[j]? = some e ∧ e.1 = t := by
  have hks : ∀ x ∈ (ents M).toList, IsKey .string x.key := fun x hx => by
    simp [ents] at hx
    obtain ⟨a, b, c, -, rfl⟩ := hx
    trivial
  rcases findNow_spec (d := .string) (k := .string t) trivial (ents M).toList 0 hks with ⟨h1, h2⟩ | ⟨j, e, h1, h2, h3⟩
  · refine .inl ⟨run_findKey hk h1, fun e he hne => h2 (ent e) (by simp [ents]; exact ⟨_, _, _, he, rfl⟩) (by rw [← hne]; rfl)⟩
  · simp only [ents, List.getElem?_map, Option.map_eq_some_iff] at h2
    obtain ⟨e', he', rfl⟩ := h2
    refine .inr ⟨j, e', by simpa [ent] using run_findKey hk h1, he', ?_⟩
    simpa [ent] using h3

theorem look_ents (hm : P.underlying mt = some (.map kt et)) (hk : P.underlying kt = some .string) (hz : ∀ w, (zeroValue et).run P w = .ok (.int .i64 0) w) (hb : w.heap[b]? = some (.map (ents M) c)) :
    ((Instr.lookup mt (.map (some b)) (.string t) true).run P w = .ok (.tuple #[.int .i64 0, .bool false]) w ∧ ∀ e ∈ M, e.1 ≠ t) ∨
    ∃ e ∈ M, (Instr.lookup mt (.map (some b)) (.string t) true).run P w = .ok (.tuple #[.int .i64 (e.2.1 : Nat), .bool true]) w ∧ e.1 = t := by
  have hck : ∀ em, (Instr.checkKey em 10000 kt (.string t)).run P w = .ok () w := fun em => MapKept.run_checkKey (d := .string) (k := .string t) hk trivial em 9999
  rcases find_ents hk M t w with ⟨h1, h2⟩ | ⟨j, e, h1, h2, h3⟩
  · exact .inl ⟨by simp [Instr.lookup, run_underlying hm, MapKept.run_getObj_map hb, hck, h1, hz, Result.andThen], h2⟩
  · exact .inr ⟨e, List.mem_of_getElem? h2, by simp [Instr.lookup, run_underlying hm, MapKept.run_getObj_map hb, hck, h1, Result.andThen], h3⟩

theorem ents_push (M : List Ent) (e : Ent) : (ents M).push (ent e) = ents (M ++ [e]) := by simp [ents]

theorem entry_ents (hm : P.underlying mt = some (.map kt et)) (hk : P.underlying kt = some .string) (hz : ∀ w, (zeroValue et).run P w = .ok (.int .i64 0) w) (hb : w.heap[b]? = some (.map (ents M) c)) (hn : ∀ e ∈ M, e.1 ≠ t) :
    (Instr.mapEntry mt (.map (some b)) (.string t)).run P w = .ok (.tuple #[.int .i64 0, .int .i64 (c : Nat)]) (setBlock w b (.map (ents (M ++ [(t, 0, c)])) (c + 1))) := by
  have hck : ∀ em, (Instr.checkKey em 10000 kt (.string t)).run P w = .ok () w := fun em => MapKept.run_checkKey (d := .string) (k := .string t) hk trivial em 9999
  rcases find_ents hk M t w with ⟨h1, h2⟩ | ⟨j, e, h1, h2, h3⟩
  · have h4 := ents_push M (t, 0, c)
    simp only [ent] at h4
    simp only [Int.natCast_zero] at h4
    simp [Instr.mapEntry, run_underlying hm, MapKept.run_getObj_map hb, hck, h1, hz, run_setObj_map _ hb, Result.andThen, setBlock, goInt, h4]
  · exact absurd h3 (hn e (List.mem_of_getElem? h2))

theorem find_born (M : List Ent) (t : ByteArray) (z c : Nat) (h : ∀ e ∈ M, e.2.2 < c) : (ents (M ++ [(t, z, c)])).findIdx? (fun e => (e.born : Int) == (c : Int)) = some M.length := by
  simp only [ents, List.findIdx?_toArray, List.map_append, List.map_cons, List.map_nil]
  rw [List.findIdx?_append, List.findIdx?_eq_none_iff.2]
  · simp [ent]
  · intro x hx
    simp at hx
    obtain ⟨a, b, c', he, rfl⟩ := hx
    have := h _ he
    simp [ent]
    simp at this
    omega

theorem modify_last {α : Type} (l : List α) (a : α) (f : α → α) : (l ++ [a]).modify l.length f = l ++ [f a] := by
  induction l with
  | nil => rfl
  | cons x l ih => simp [ih]

theorem store_ents (hb : w.heap[b]? = some (.map (ents (M ++ [(t, 0, c)])) (c + 1))) (hc : ∀ e ∈ M, e.2.2 < c) (id : Nat) :
    (Instr.entryStore mt (.map (some b)) (.int .i64 (c : Nat)) (.int .i64 (id : Nat))).run P w = .ok () (setBlock w b (.map (ents (M ++ [(t, id, c)])) (c + 1))) := by
  have h1 := find_born M t 0 c hc
  have h2 : (ents (M ++ [(t, 0, c)])).modify M.length (fun e => { e with val := .int .i64 (id : Nat) }) = ents (M ++ [(t, id, c)]) := by
    have h3 := modify_last (M.map ent) (ent (t, 0, c)) (fun e => { e with val := .int .i64 (id : Nat) })
    rw [List.length_map] at h3
    simp only [ents, List.map_append, List.map_cons, List.map_nil, List.modify_toArray, h3]
    rfl
  simp [Instr.entryStore, MapKept.run_getObj_map hb, asInt, asIntOf, h1, run_setObj_map _ hb, Result.andThen, setBlock, h2]

theorem setBlock_same (hb : w.heap[b]? = some (.map (ents M) c)) (o : Obj) : (setBlock w b o).heap[b]? = some o := by
  unfold setBlock
  have hlt : b < w.heap.size := (Array.getElem?_eq_some_iff.1 hb).1
  simp [hlt]
theorem setBlock_far (w : World) (o : Obj) {x : Nat} (h : x ≠ b) : (setBlock w b o).heap[x]? = w.heap[x]? := by
  unfold setBlock
  simp [Ne.symm h]
theorem setBlock_set (w : World) (o o' : Obj) : setBlock (setBlock w b o) b o' = setBlock w b o' := by
  simp [setBlock]

theorem delete_ents (hm : P.underlying mt = some (.map kt et)) (hk : P.underlying kt = some .string) (hb : w.heap[b]? = some (.map (ents M) c)) (ht : ∃ e ∈ M, e.1 = t) (ty : TypeId) :
    ∃ (j : Nat) (e : Ent), (Builtin.delete_ #[mt, kt] ty #[.map (some b), .string t]).run P w = .ok (.tuple #[]) (setBlock w b (.map (ents (M.eraseIdx j)) c)) ∧ M[j]? = some e ∧ e.1 = t := by
  have hck : ∀ em, (Instr.checkKey em 10000 kt (.string t)).run P w = .ok () w := fun em => MapKept.run_checkKey (d := .string) (k := .string t) hk trivial em 9999
  rcases find_ents hk M t w with ⟨h1, h2⟩ | ⟨j, e, h1, h2, h3⟩
  · obtain ⟨e, he, h⟩ := ht
    exact absurd h (h2 e he)
  · refine ⟨j, e, ?_, h2, h3⟩
    have hlt : j < M.length := (List.getElem?_eq_some_iff.1 h2).1
    have h4 : (ents M).eraseIdxIfInBounds j = ents (M.eraseIdx j) := by
      apply Array.toList_inj.1
      simp [ents, Array.eraseIdxIfInBounds, hlt, ChangeMaps.map_eraseIdx]
    simp [Builtin.delete_, run_underlying hm, MapKept.run_getObj_map hb, hck, h1, run_setObj_map _ hb, Result.andThen, setBlock, h4]

end

end Go.Proofs.YtaoekllajnnbjaaDoor
