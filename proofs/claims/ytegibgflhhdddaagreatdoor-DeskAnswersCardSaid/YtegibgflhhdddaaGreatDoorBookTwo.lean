/- Two books side by side. -/
import Derived.Test.YtegibgflhhdddaaGreatDoorBookFact
import Derived.Test.YtegibgflhhdddaaGreatDoorOpenWalk
import Derived.Test.YtegibgflhhdddaaGreatDoorInts
import Derived.Laws.Small
namespace Go.Proofs.YtegibgflhhdddaaGreatDoor
open Go.RowKit

structure Two (w : World) (g h : Nat) (b c : Bk) : Prop where
  one : BookIs w g b
  two : BookIs w h c
  apart : ∀ x, BkOwn w g x → ¬ BkOwn w h x

theorem Two.first {w w' : World} {g h : Nat} {b b' c : Bk} (t : Two w g h b c) (k : BookIs w' g b') (f : BkFrame w w' g) : Two w' g h b' c := by
  obtain ⟨h1, h2⟩ := t.two.other f (fun x hx hy => t.apart x hy hx)
  exact ⟨k, h1, fun x hx hy => h2 x hy hx⟩
theorem Two.second {w w' : World} {g h : Nat} {b c c' : Bk} (t : Two w g h b c) (k : BookIs w' h c') (f : BkFrame w w' h) : Two w' g h b c' := by
  obtain ⟨h1, h2⟩ := t.one.other f t.apart
  exact ⟨h1, k, h2⟩
theorem Two.later {w w' : World} {g h : Nat} {b c : Bk} (t : Two w g h b c) (hb : Below w.heap.size w w') : Two w' g h b c :=
  ⟨t.one.later hb, t.two.later hb, fun x hx hy => t.apart x (((t.one.below hb).2 x).1 hx) (((t.two.below hb).2 x).1 hy)⟩
theorem Two.mk_new {w w' : World} {g h : Nat} {b c : Bk} (h1 : BookIs w g b) (hb : Below w.heap.size w w') (h2 : BookIs w' h c) (hg : w.heap.size ≤ h) : Two w' g h b c :=
  ⟨h1.later hb, h2, fun x hx hy => by
    have k1 := h1.own_lt (((h1.below hb).2 x).1 hx)
    have k2 := h2.own_lt hy
    omega⟩

theorem errV_cases (k : Int) : errV k = .nilIface ∨ ∃ pv, errV k = .iface 80 pv := by
  unfold errV
  split
  · exact .inl rfl
  · exact .inr ⟨_, rfl⟩

theorem vals_walk (w : World) (g : Nat) (b : Bk) (hb : BookIs w g b) :
    Calls Tryz.prog 39 #[.pointer (some ⟨g, 0, none⟩)] w fun e w' => (∃ v, e = .returned v ∧ HasInts w' v (b.B.map fun (n : Nat) => (n : Int))) ∧ Below w.heap.size w w' :=
  (values_walk w g b hb).mono fun _ _ ⟨⟨v, h1, h2⟩, h3⟩ => ⟨⟨v, h1, (HasInts.of_own h2).2⟩, h3⟩

theorem eqlB (x y : Bool) (w : World) : (binOp .eql 4 (.bool x) (.bool y)).run Tryz.prog w = .ok (.bool (x == y)) w := run_eql_bool (P := Tryz.prog) w _ x y Tryz.underlying4
theorem neqB (x y : Bool) (w : World) : (binOp .neq 4 (.bool x) (.bool y)).run Tryz.prog w = .ok (.bool (!(x == y))) w := run_neq_bool (P := Tryz.prog) w _ x y Tryz.underlying4

/-- a text's name, so that the walk does not open it -/
theorem named (l : List UInt8) : ∃ t : ByteArray, t = ⟨l.toArray⟩ := ⟨_, rfl⟩

end Go.Proofs.YtegibgflhhdddaaGreatDoor
