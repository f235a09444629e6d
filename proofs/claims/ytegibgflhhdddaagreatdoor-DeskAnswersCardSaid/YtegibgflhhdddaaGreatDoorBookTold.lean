/- 'told': a book in which something was written and done. -/
import Derived.Test.YtegibgflhhdddaaGreatDoorBook5
import Derived.Test.YtegibgflhhdddaaGreatDoorReplay
import Derived.Test.YtegibgflhhdddaaGreatDoorReadRows
import Derived.StillTailTactics
namespace Go.Proofs.YtegibgflhhdddaaGreatDoor
open Go.RowKit

/-- a step of the law -/
def stepB (b : Bk) (r : List Int) : Bk := if r.length = 2 then b.write (r.getD 0 0) (r.getD 1 0) else if r.length = 1 then b.done else b
def toldB (rs : List (List Int)) : Bk := (rs.take 70).foldl stepB Bk.new

theorem stepB_good {b : Bk} (h : b.ok ∧ b.told) (r : List Int) : (stepB b r).ok ∧ (stepB b r).told := by
  unfold stepB
  split
  · exact ⟨h.1.write _ _, h.2.write _ _⟩
  · split
    · exact ⟨h.1.done, h.2.done⟩
    · exact h
theorem foldB_good (rs : List (List Int)) : ∀ {b : Bk}, b.ok ∧ b.told → (rs.foldl stepB b).ok ∧ (rs.foldl stepB b).told := by
  induction rs with
  | nil => exact fun h => h
  | cons r rs ih => exact fun h => ih (stepB_good h r)
theorem toldB_good (rs : List (List Int)) : (toldB rs).ok ∧ (toldB rs).told := foldB_good _ ⟨Bk.new_ok, Bk.told_new⟩

theorem HasRows.liesT {w : World} {a : Option Addr} {n cap : Nat} {rs : List (List Int)} (h : HasRows w (.slice a n cap) rs) {j : Nat} {r : List Int} (hr : rs[j]? = some r) :
    ∃ b off rv, a = some ⟨b, off, none⟩ ∧ b < w.heap.size ∧ w.cell? ⟨b, off + j, none⟩ = some rv ∧ HasInts w rv r := by
  obtain ⟨a', cap', h1, -, -, h4⟩ := h
  cases h1
  obtain ⟨b, off, h5, h50, h6⟩ := h4 (Nat.lt_of_le_of_lt (Nat.zero_le _) (List.getElem?_eq_some_iff.1 hr).1)
  obtain ⟨rv, h7, h8⟩ := h6 j r hr
  exact ⟨b, off, rv, h5, h50, h7, h8⟩
theorem HasInts.liesT {w : World} {a : Option Addr} {n cap : Nat} {L : List Int} (h : HasInts w (.slice a n cap) L) {j : Nat} {x : Int} (hx : L[j]? = some x) :
    ∃ b off, a = some ⟨b, off, none⟩ ∧ b < w.heap.size ∧ w.cell? ⟨b, off + j, none⟩ = some (.int .i64 x) := by
  obtain ⟨a', cap', h1, -, -, h4⟩ := h
  cases h1
  obtain ⟨b, off, h5, h50, h6⟩ := h4 (Nat.lt_of_le_of_lt (Nat.zero_le _) (List.getElem?_eq_some_iff.1 hx).1)
  exact ⟨b, off, h5, h50, h6 j x hx⟩
theorem HasInts.slT {w : World} {v : Value} {L : List Int} (h : HasInts w v L) : ∃ a n c, v = .slice a n c ∧ n = L.length ∧ n ≤ 9223372036854775807 := by
  obtain ⟨a, cap, h1, h2, h3, -⟩ := h
  exact ⟨a, _, cap, h1, rfl, by unfold maxLen at h3; omega⟩

end Go.Proofs.YtegibgflhhdddaaGreatDoor
