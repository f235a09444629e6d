/- The library's words on bytes, in the book's: where a byte stands, what it cuts. No program in it. -/
import Derived.Test.YtegibgflhhdddaaGreatDoorBookMath
import Derived.Lib.SplitLaws
import Derived.Lib.LastIndexByte
namespace Go.Proofs.YtegibgflhhdddaaGreatDoor
open Go Go.Lib

theorem pre_one (c b : UInt8) (l : List UInt8) : ([c] : List UInt8).isPrefixOf (b :: l) = (c == b) := by
  simp [List.isPrefixOf]

theorem index_skip {c : UInt8} {l : List UInt8} (h : c ∉ l) : index l [c] = -1 := by
  induction l with
  | nil => rfl
  | cons b l ih =>
    rw [List.mem_cons, not_or] at h
    unfold index
    rw [pre_one, if_neg (by simpa using h.1), ih h.2]
    rfl
theorem index_at {c : UInt8} {a b : List UInt8} (h : c ∉ a) : index (a ++ c :: b) [c] = a.length := by
  induction a with
  | nil =>
    show index (c :: b) [c] = 0
    unfold index
    rw [pre_one, if_pos (by simp)]
  | cons x a ih =>
    rw [List.mem_cons, not_or] at h
    rw [List.cons_append]
    unfold index
    rw [pre_one, if_neg (by simpa using h.1), ih h.2, if_neg (by rw [beq_iff_eq]; omega)]
    simp
theorem indexByte_skip {c : UInt8} {l : List UInt8} (h : c ∉ l) : indexByte l c = -1 := by
  induction l with
  | nil => rfl
  | cons b l ih =>
    rw [List.mem_cons, not_or] at h
    unfold indexByte
    rw [if_neg (by simpa using Ne.symm h.1), ih h.2]
    rfl
theorem indexByte_at {c : UInt8} {a b : List UInt8} (h : c ∉ a) : indexByte (a ++ c :: b) c = a.length := by
  induction a with
  | nil =>
    show indexByte (c :: b) c = 0
    unfold indexByte
    rw [if_pos (by simp)]
  | cons x a ih =>
    rw [List.mem_cons, not_or] at h
    rw [List.cons_append]
    unfold indexByte
    rw [if_neg (by simpa using Ne.symm h.1), ih h.2, if_neg (by rw [beq_iff_eq]; omega)]
    simp

/-- the first c of a text -/
theorem first_cut {c : UInt8} : ∀ {l : List UInt8}, c ∈ l → ∃ a b, l = a ++ c :: b ∧ c ∉ a
  | [], h => by cases h
  | x :: l, h => by
    by_cases hx : x = c
    · exact ⟨[], l, by rw [hx]; rfl, by simp⟩
    · have hl : c ∈ l := by
        rcases List.mem_cons.1 h with e | e
        · exact absurd e.symm hx
        · exact e
      obtain ⟨a, b, e, hn⟩ := first_cut hl
      exact ⟨x :: a, b, by rw [e]; rfl, by rw [List.mem_cons, not_or]; exact ⟨fun e' => hx e'.symm, hn⟩⟩

theorem count_skip {c : UInt8} {a : List UInt8} (h : c ∉ a) (b : List UInt8) : (a ++ c :: b).count c = b.count c + 1 := by
  rw [List.count_append, List.count_eq_zero.2 h, List.count_cons_self]
  omega

/-- Split -/
theorem splitK_cut (c : UInt8) : ∀ (n : Nat) (l : List UInt8), l.count c = n → splitK [c] 0 n l = cutAt c l
  | 0, l, h => by
    rw [cutAt_skip (List.count_eq_zero.1 h)]
    rfl
  | n + 1, l, h => by
    have hm : c ∈ l := List.count_pos_iff.1 (by omega)
    obtain ⟨a, b, rfl, hn⟩ := first_cut hm
    rw [cutAt_append hn]
    unfold splitK
    have hi := index_at (b := b) hn
    rw [hi, if_neg (by rw [beq_iff_eq]; omega)]
    rw [count_skip hn] at h
    have e1 : ((a.length : Int).toNat + 0) = a.length := by omega
    have e2 : ((a.length : Int).toNat + ([c] : List UInt8).length) = a.length + 1 := by simp
    rw [e1, e2]
    have e3 : (a ++ c :: b).take a.length = a := by rw [List.take_left' rfl]
    have e4 : (a ++ c :: b).drop (a.length + 1) = b := by
      rw [show a ++ c :: b = (a ++ [c]) ++ b by simp]
      rw [List.drop_left' (by simp)]
    rw [e3, e4, splitK_cut c n b (by omega)]

/-- SplitAfter, at whole lines -/
theorem splitK_lines (c : UInt8) : ∀ (L : List (List UInt8)), (∀ l ∈ L, c ∉ l) → splitK [c] 1 L.length ((L.map (· ++ [c])).flatten) = L.map (· ++ [c]) ++ [[]]
  | [], _ => rfl
  | l :: L, h => by
    have hn := h l List.mem_cons_self
    have ih := splitK_lines c L (fun x hx => h x (List.mem_cons_of_mem _ hx))
    have e0 : ((l :: L).map (· ++ [c])).flatten = l ++ c :: (L.map (· ++ [c])).flatten := by simp
    rw [e0, List.length_cons]
    unfold splitK
    rw [index_at hn, if_neg (by rw [beq_iff_eq]; omega)]
    have e1 : ((l.length : Int).toNat + 1) = l.length + 1 := by omega
    have e2 : ((l.length : Int).toNat + ([c] : List UInt8).length) = l.length + 1 := by simp
    rw [e1, e2]
    have e3 : (l ++ c :: (L.map (· ++ [c])).flatten).take (l.length + 1) = l ++ [c] := by
      rw [show l ++ c :: (L.map (· ++ [c])).flatten = (l ++ [c]) ++ (L.map (· ++ [c])).flatten by simp]
      rw [List.take_left' (by simp)]
    have e4 : (l ++ c :: (L.map (· ++ [c])).flatten).drop (l.length + 1) = (L.map (· ++ [c])).flatten := by
      rw [show l ++ c :: (L.map (· ++ [c])).flatten = (l ++ [c]) ++ (L.map (· ++ [c])).flatten by simp]
      rw [List.drop_left' (by simp)]
    rw [e3, e4, ih]
    rfl

theorem data_get (s : ByteArray) (j : Nat) (h : j < s.size) : s.data[j]! = s.data.toList[j]'(by simpa using h) := by
  have h' : j < s.data.size := h
  rw [getElem!_pos s.data j h']
  rfl

/-- LastIndexByte -/
theorem lastByte_none {s : ByteArray} {c : UInt8} (h : lastCut c s.data.toList = none) : lastIndexByte s c.toNat = -1 := by
  have hn := lastCut_none.1 h
  rcases lastIndexByte_spec s c.toNat with ⟨e, -⟩ | ⟨i, hi, -, hc, -⟩
  · exact e
  · rw [data_get s i hi] at hc
    have : s.data.toList[i]'(by simpa using hi) = c := UInt8.toNat_inj.1 (by omega)
    exact absurd (this ▸ List.getElem_mem _) hn
theorem lastByte_some {s : ByteArray} {c : UInt8} {a b : List UInt8} (h : lastCut c s.data.toList = some (a, b)) : lastIndexByte s c.toNat = a.length := by
  obtain ⟨hl, hn⟩ := lastCut_some.1 h
  have hsz : s.size = a.length + 1 + b.length := by
    have : s.data.toList.length = s.size := rfl
    rw [hl] at this
    simp at this
    omega
  have hat : ∀ j (hj : j < s.size), s.data[j]! = (a ++ c :: b)[j]'(by simp; omega) := fun j hj => by
    rw [data_get s j hj]
    simp only [hl]
  rcases lastIndexByte_spec s c.toNat with ⟨-, hno⟩ | ⟨i, hi, e, hc, hno⟩
  · have h1 := hno a.length (by omega)
    rw [hat _ (by omega)] at h1
    simp at h1
  · rw [e]
    rcases Nat.lt_trichotomy i a.length with h1 | h1 | h1
    · have h2 := hno a.length h1 (by omega)
      rw [hat _ (by omega)] at h2
      simp at h2
    · rw [h1]
    · rw [hat i hi, List.getElem_append_right (by omega)] at hc
      have hb : ∃ d, i - a.length = d + 1 := ⟨i - a.length - 1, by omega⟩
      obtain ⟨d, hd⟩ := hb
      simp only [hd, List.getElem_cons_succ] at hc
      have : b[d]'(by omega) = c := UInt8.toNat_inj.1 (by omega)
      exact absurd (this ▸ List.getElem_mem _) hn

theorem suffix_yes (a : List UInt8) (c : UInt8) : hasSuffix (a ++ [c]) [c] = true ∧ trimSuffix (a ++ [c]) [c] = a := by
  have h : hasSuffix (a ++ [c]) [c] = true := by unfold hasSuffix; simp
  refine ⟨h, ?_⟩
  unfold trimSuffix
  rw [if_pos h]
  simp
theorem suffix_no {a : List UInt8} {c : UInt8} (h : c ∉ a) : hasSuffix a [c] = false ∧ trimSuffix a [c] = a := by
  have hs : hasSuffix a [c] = false := by
    unfold hasSuffix
    rw [Bool.eq_false_iff]
    intro e
    have hsuf := List.isSuffixOf_iff_suffix.1 e
    exact h (hsuf.subset (by simp))
  refine ⟨hs, ?_⟩
  unfold trimSuffix
  rw [hs]
  rfl

end Go.Proofs.YtegibgflhhdddaaGreatDoor
