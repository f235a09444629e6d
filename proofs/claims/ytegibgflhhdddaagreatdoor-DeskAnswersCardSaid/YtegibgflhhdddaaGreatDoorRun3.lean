/- Run at any text; the last line of a text; closed facts. -/
import Derived.Test.YtegibgflhhdddaaGreatDoorRun2
import Derived.Test.YtegibgflhhdddaaGreatDoorDeskSaid
import Derived.Test.YtegibgflhhdddaaGreatDoorRefBook1
namespace Go.Proofs.YtegibgflhhdddaaGreatDoor
open Go.RowKit

theorem bytes_self (s : ByteArray) : (⟨s.data.toList.toArray⟩ : ByteArray) = s := ByteArray.ext (by simp)
theorem run_text (s : ByteArray) (w : World) (B : Nat) (hB : B ≤ w.heap.size) (he : Env B w) (hh : Hand B w) (hs : s.size ≤ 140737488355328) :
    Calls Tryz.prog 4 #[.string s] w fun e w' => e = .returned (.string ⟨(runT s.data.toList).toArray⟩) ∧ Below w.heap.size w w' := by
  have h := run_walk s.data.toList w B hB he hh (by have : s.data.toList.length = s.size := rfl; omega)
  rwa [bytes_self] at h

theorem runT_small {t : List UInt8} (h : t.length ≤ 3000) : runT t = sessT Bk.new (deskLines t) := by unfold runT; rw [if_neg (by omega)]
theorem fact_waits : runT [119, 97, 105, 116, 115] = [48, 10] := by
  have h0 : deskLines [119, 97, 105, 116, 115] = [lWaits] := by
    obtain ⟨h1, h2⟩ := wholeLines_skip (t := [119, 97, 105, 116, 115]) (by decide)
    unfold deskLines
    rw [h1, h2]
    rfl
  rw [runT_small (by decide), h0]
  show Bk.new.ansT (req lWaits) ++ 10 :: [] = _
  rw [req_waits]
  show Lib.decDigits 0 ++ [10] = _
  rw [Lib.decDigits_one (by decide)]
  rfl
theorem fact_lines : runT [119, 114, 105, 116, 101, 32, 49, 32, 50, 10, 10, 98] = [111, 107, 10, 98, 97, 100, 10, 98, 97, 100, 10] := by
  have e1 : Lib.decDigits 1 = [49] := by rw [Lib.decDigits_one (by decide)]; rfl
  have e2 : Lib.decDigits 2 = [50] := by rw [Lib.decDigits_one (by decide)]; rfl
  have h0 : deskLines [119, 114, 105, 116, 101, 32, 49, 32, 50, 10, 10, 98] = [lWrite 1 2, [], [98]] := by
    have e3 : ([119, 114, 105, 116, 101, 32, 49, 32, 50, 10, 10, 98] : List UInt8) = lWrite 1 2 ++ 10 :: ([] ++ 10 :: [98]) := by
      unfold lWrite
      rw [e1, e2]
      rfl
    rw [e3, deskLines_line (lWrite_feed 1 2), deskLines_line (by simp)]
    obtain ⟨h1, h2⟩ := wholeLines_skip (t := [98]) (by decide)
    unfold deskLines
    rw [h1, h2]
    rfl
  rw [runT_small (by decide), h0]
  show Bk.new.ansT (req (lWrite 1 2)) ++ 10 :: ((Bk.new.ansB (req (lWrite 1 2))).ansT (req []) ++ 10 :: (((Bk.new.ansB (req (lWrite 1 2))).ansB (req [])).ansT (req [98]) ++ 10 :: [])) = _
  rw [req_write (by decide) (by decide)]
  have r1 : req [] = .bad := by
    unfold req
    rw [cutAt_skip (by simp)]
    rfl
  have r2 : req [98] = .bad := by
    unfold req
    rw [cutAt_skip (by decide)]
    rfl
  rw [r1, r2]
  rfl

theorem str_size (l : List UInt8) : (⟨l.toArray⟩ : ByteArray).size = l.length := List.size_toArray

/-- the last line of a text that ends one -/
theorem last_end {p a : List UInt8} (hp : Whole p) {j : Nat} (hj : j ≤ a.length) (ha : (10 : UInt8) ∉ a) (x : ByteArray) (hx : x.data.toList = p ++ (a ++ [10])) (h0 : 0 < p.length + j) (hlt : p.length + j - 1 < x.size) : x[p.length + j - 1] = 10 ↔ j = 0 := by
  obtain ⟨c, hc⟩ : ∃ c, c = x[p.length + j - 1] := ⟨_, rfl⟩
  have h2 : (p ++ (a ++ [10]))[p.length + j - 1]? = some c := by
    rw [← hx, hc]
    exact List.getElem?_eq_getElem _
  rw [← hc]
  clear hc
  constructor
  · intro h
    rw [h] at h2
    refine Classical.byContradiction fun hne => ?_
    rw [List.getElem?_append_right (by omega), List.getElem?_append_left (by omega)] at h2
    exact ha (List.mem_of_getElem? h2)
  · intro hj0
    subst hj0
    rcases hp with rfl | ⟨r, rfl⟩
    · simp at h0
    · rw [List.getElem?_append_left (by omega)] at h2
      simp at h2
      exact h2.symm

theorem last_drop {p q : List UInt8} (x : ByteArray) (hx : x.data.toList = p ++ q) : x.extract p.length x.size = ⟨q.toArray⟩ := by
  apply ByteArray.ext
  apply Array.toList_inj.1
  rw [ByteArray.data_extract, Array.toList_extract]
  have h1 : x.size = p.length + q.length := by
    have : x.data.toList.length = x.size := rfl
    rw [← this, hx, List.length_append]
  simp [hx, h1]

end Go.Proofs.YtegibgflhhdddaaGreatDoor
