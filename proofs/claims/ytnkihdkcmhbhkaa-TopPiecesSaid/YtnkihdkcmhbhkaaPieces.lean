/- The walk of chunk.Pieces. -/
import Derived.Test.YtnkihdkcmhbhkaaCuts
import Derived.Test.YtnkihdkcmhbhkaaPieceMath
namespace Go.Proofs.Ytnkihdkcmhbhkaa
open Go.RowKit Chunk

theorem infoStr : (Try.prog.info? 9).map (fun i => (i.zero, i.size, i.bytes)) = some (some (.string ByteArray.empty), 1, 16) := by kernel_rfl

def PiecesRel (w wr : World) (s : ByteArray) (cs : List Nat) (k : Nat) (v f : Value) : Prop :=
  f = .int .i64 (lastOf cs k : Nat) ∧ wr.ownsRow w.heap.size 9 1 v k (strsV (piecesB s cs k)) ∧ Below w.heap.size w wr

theorem pieces_rel {w wr : World} {s : ByteArray} {cs : List Nat} {k c : Nat} {v : Value} (hc : cs[k]? = some c)
    (hown : wr.ownsRow w.heap.size 9 1 v (k + 1) (strsV (piecesB s cs k) ++ [.string (s.extract (lastOf cs k) c)])) (hb : Below w.heap.size w wr) : PiecesRel w wr s cs (k + 1) v (.int .i64 (c : Nat)) := by
  refine ⟨by simp [lastOf, hc], ?_, hb⟩
  rw [piecesB_step s hc]
  simpa [strsV] using hown

theorem cutsI_get {t : List UInt8} {k c : Nat} (h : (cuts t)[k]? = some c) : (cutsI t)[k]? = some (c : Int) := by unfold cutsI; rw [List.getElem?_map, h]; rfl

set_option maxHeartbeats 400000 in
theorem pieces_any (s : ByteArray) (w : World) (hs : s.size ≤ 2000) :
    Calls Try.prog 12 #[.string s] w fun e w' => ∃ v, e = .returned (.tuple #[v, .nilIface]) ∧
      w'.ownsRow w.heap.size 9 1 v (cuts s.data.toList).length (strsV (piecesB s (cuts s.data.toList) (cuts s.data.toList).length)) ∧ Below w.heap.size w w' := by
  go_enter Try.func12, Try.ntmps12
  go_wp2_with fail
  refine (cuts_any s _ hs).mono ?_
  rintro e w1 ⟨v, rfl, hown, hb⟩
  obtain ⟨a, cap, rfl, hc1, hc2, hcell⟩ := (HasInts.of_own hown).2
  have HB1 := Lib.hid hb
  clear hb hown
  rw [show (cutsI s.data.toList).length = (cuts s.data.toList).length from by simp [cutsI]] at hcell hc1 ⊢
  obtain ⟨cs, hcs⟩ : ∃ cs, cs = cuts s.data.toList := ⟨_, rfl⟩
  have INV := Lib.hid (show ∀ (k c : Nat), cs[k]? = some c → lastOf cs k < c ∧ c ≤ s.size from fun k c h => by rw [hcs] at h ⊢; have := cuts_inv h; simp at this; omega)
  have CI := Lib.hid (show ∀ (k c : Nat), cs[k]? = some c → (cutsI s.data.toList)[k]? = some (c : Int) from fun k c h => by rw [hcs] at h; exact cutsI_get h)
  have hlen : cs.length ≤ 2000 := by rw [hcs]; have := cuts_length s.data.toList; simp at this; omega
  rw [← hcs] at hcell hc1 ⊢
  have HCS := Lib.hid hcs
  clear hcs
  obtain ⟨n, hn⟩ : ∃ n, n = cs.length := ⟨_, rfl⟩
  rw [← hn] at hcell hc1 hlen ⊢
  have HN := Lib.hid hn
  have HC := Lib.hid hcell
  clear hn hcell
  go_wp2_with fail
  go_loopw [6, 7, 20] (fun v f i wr => ∃ k : Nat, k ≤ n ∧ i = .int .i64 k ∧ PiecesRel w1 wr s cs k v f) (fun _ _ i _ => n - (intOf i).toNat)
  case atStart => exact ⟨0, Nat.zero_le _, rfl, rfl, World.ownsRow_nil .., Below.refl ..⟩
  case round =>
    obtain ⟨k, hk, rfl, rfl, hown, hb⟩ := hrel
    have HOWN := Lib.hid hown
    have HB := Lib.hid hb
    clear hown hb
    by_cases hlt : k < n
    · obtain ⟨b, off, rfl, hbx, hcx⟩ := HC.out (by omega)
      obtain ⟨c, hc⟩ : ∃ c, cs[k]? = some c := ⟨_, List.getElem?_eq_getElem (by have := HN.out; omega)⟩
      have hxc := hcx k c (CI.out k c hc)
      rw [← HB.out.cell (p := ⟨b, off + k, none⟩) hbx] at hxc
      obtain ⟨i1, i2⟩ := INV.out k c hc
      obtain ⟨f, hf⟩ : ∃ f, f = lastOf cs k := ⟨_, rfl⟩
      rw [← hf] at i1 ⊢
      have HF := Lib.hid hf
      have EK := Lib.hid hc
      have HN1 := Lib.hid (show k + 1 ≤ maxLen from by unfold maxLen; omega)
      have HN2 := Lib.hid (show (k + 1) * 16 ≤ 140737488355328 from by omega)
      clear hc hcx hf
      go_wp2_with (at_builtin; go_must (refine wpList_push (.string ByteArray.empty) 16 HOWN.out Try.underlying32 infoStr rfl rfl rfl rfl HN1.out HN2.out HB.out.size ?_; intro v' w5 hown1 hbel1 _; have HO1 := Lib.hid hown1; have HB1 := Lib.hid (HB.out.trans hbel1); clear hown1 hbel1))
      go_roundw
      case rel => exact ⟨k + 1, by omega, by go_num, pieces_rel EK.out (by rw [← HF.out]; exact HO1.out) HB1.out⟩
      case measure => simp [intOf]; omega
    · obtain rfl : k = n := by omega
      go_wp2_with fail
      go_ret2
      exact ⟨_, rfl, by rw [← HCS.out, ← HN.out]; exact ownsRow_base HOWN.out HB1.out.size, HB1.out.trans (HB.out.mono HB1.out.size)⟩

set_option maxHeartbeats 400000 in
theorem pieces_long (s : ByteArray) (w : World) (hs : 2000 < s.size) :
    Calls Try.prog 12 #[.string s] w fun e w' => e = .returned (.tuple #[.slice none 0 0, .iface 46 (.int .i64 4)]) ∧ w = w' := by
  go_enter Try.func12, Try.ntmps12
  go_wp2_with fail
  refine (cuts_long s _ hs).mono ?_
  rintro e w1 ⟨rfl, rfl⟩
  go_wp2_with fail
  go_ret2
  exact ⟨rfl, rfl⟩

end Go.Proofs.Ytnkihdkcmhbhkaa
