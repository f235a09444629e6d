/- The reference opens a text. -/
import Derived.Test.YtegibgflhhdddaaGreatDoorRefLine
import Derived.Test.YtegibgflhhdddaaGreatDoorOpenMath
import Derived.Test.YtegibgflhhdddaaGreatDoorDeskMath
namespace Go.Proofs.YtegibgflhhdddaaGreatDoor
open Go.RowKit

/-- a book's row -/
def bookCells (v1 v2 v3 : Value) (b : Bk) : Obj := .cells #[v1, v2, v3, .string ⟨b.text.toArray⟩, .int .i64 (b.T.length : Nat)] 44 (0, 0)
def noBook : Value := .agg #[.slice none 0 0, .slice none 0 0, .slice none 0 0, .string ⟨#[]⟩, .int .i64 0]

/-- a book's row changes, and another book stays -/
theorem book_far {w w' : World} {gx : Nat} {a0 a1 a2 a3 a4 t1 t2 t3 y0 y1 y2 y3 y4 : Value} {c : Bk} (hx : w.heap[gx]? = some (.cells #[a0, a1, a2, a3, a4] 44 (0, 0))) (hr : RefIs w t1 t2 t3 c)
    (hw : w' = ((((w.setCell ⟨gx, 0, none⟩ y0).setCell ⟨gx, 1, none⟩ y1).setCell ⟨gx, 2, none⟩ y2).setCell ⟨gx, 3, none⟩ y3).setCell ⟨gx, 4, none⟩ y4) :
    RefIs w' t1 t2 t3 c ∧ (∀ x, x ≠ gx → w'.heap[x]? = w.heap[x]?) ∧ w'.heap.size = w.heap.size ∧ (∀ B, B ≤ gx → Below B w w') ∧ w'.heap[gx]? = some (.cells #[y0, y1, y2, y3, y4] 44 (0, 0)) := by
  have hz : ∀ (w0 : World) (o : Nat) (u : Value) (x : Nat), x ≠ gx → (w0.setCell ⟨gx, o, none⟩ u).heap[x]? = w0.heap[x]? := fun w0 o u x hx => heap_setCell_other w0 ⟨gx, o, none⟩ x u hx
  have hall : ∀ x, x ≠ gx → w'.heap[x]? = w.heap[x]? := fun x hx => by
    rw [hw, hz _ _ _ _ hx, hz _ _ _ _ hx, hz _ _ _ _ hx, hz _ _ _ _ hx, hz _ _ _ _ hx]
  have hsz : w'.heap.size = w.heap.size := by rw [hw]; simp
  have hfar : ∀ (v : Value) (L : List Int), HasInts w v L → IntRow w v → HasInts w' v L ∧ IntRow w' v := by
    intro v L hv hi
    obtain ⟨a, cap, rfl, h2, h3, h4⟩ := hv
    have hne : ∀ x, a = some x → x.block ≠ gx := fun x hx' e => by
      obtain ⟨cs, fr, hh⟩ := hi x _ _ (by rw [hx'])
      rw [e, hx] at hh
      simp at hh
    rw [hw]
    refine ⟨((((HasInts.far ⟨a, cap, rfl, h2, h3, h4⟩ hne).far hne).far hne).far hne).far hne, fun x n c e => ?_⟩
    obtain ⟨cs, fr, hh⟩ := hi x n c e
    rw [← hw]
    exact ⟨cs, fr, (hall _ (hne x (by cases e; rfl))).trans hh⟩
  refine ⟨⟨(hfar _ _ hr.r1 hr.i1).1, (hfar _ _ hr.r2 hr.i2).1, (hfar _ _ hr.r3 hr.i3).1, hr.n2, hr.n3, (hfar _ _ hr.r1 hr.i1).2, (hfar _ _ hr.r2 hr.i2).2, (hfar _ _ hr.r3 hr.i3).2⟩, hall, hsz, fun B hB => ?_, ?_⟩
  · rw [hw]
    exact (((((Below.refl B w).setCell (p := ⟨gx, 0, none⟩) hB _).setCell (p := ⟨gx, 1, none⟩) hB _).setCell (p := ⟨gx, 2, none⟩) hB _).setCell (p := ⟨gx, 3, none⟩) hB _).setCell (p := ⟨gx, 4, none⟩) hB _
  · rw [hw]
    exact fill5 hx _ _ _ _ _

/-- where the walk of Open stands: the answer's row, the book's, the row of what is done -/
structure OB (w wr : World) (gb : Nat) (b d : Bk) : Prop where
  z : wr.heap[w.heap.size]? = some (.cells #[.slice none 0 0, .slice none 0 0, .slice none 0 0, .string ⟨#[]⟩, .int .i64 0] 44 (0, 0))
  bx : ∃ v1 v2 v3, wr.heap[gb]? = some (bookCells v1 v2 v3 b) ∧ RefIs wr v1 v2 v3 b
  dx : ∃ v1 v2 v3, wr.heap[gb + 1]? = some (bookCells v1 v2 v3 d) ∧ RefIs wr v1 v2 v3 d
  lo : w.heap.size < gb
  bel : Below w.heap.size w wr

theorem lt_of_heap {w : World} {x : Nat} {o : Obj} (h : w.heap[x]? = some o) : x < w.heap.size := (Array.getElem?_eq_some_iff.1 h).1

theorem cell_of_heap {w w' : World} {x : Nat} (h : w'.heap[x]? = w.heap[x]?) (o : Nat) : w'.cell? ⟨x, o, none⟩ = w.cell? ⟨x, o, none⟩ := by
  unfold World.cell?
  simp only
  rw [h]
theorem lt_of_heap' {w w' : World} {x : Nat} (hx : x < w.heap.size) (h : w'.heap[x]? = w.heap[x]?) : x < w'.heap.size := by
  rw [Array.getElem?_eq_getElem hx] at h
  exact lt_of_heap h

theorem OB.below {w wr wx : World} {gb : Nat} {b d : Bk} (h : OB w wr gb b d) (hb : Below wr.heap.size wr wx) : OB w wx gb b d := by
  obtain ⟨v1, v2, v3, h1, h2⟩ := h.bx
  obtain ⟨u1, u2, u3, h3, h4⟩ := h.dx
  exact ⟨(hb.block _ (lt_of_heap h.z)).trans h.z, ⟨v1, v2, v3, (hb.block _ (lt_of_heap h1)).trans h1, h2.below hb⟩, ⟨u1, u2, u3, (hb.block _ (lt_of_heap h3)).trans h3, h4.below hb⟩, h.lo, h.bel.trans (hb.mono h.bel.size)⟩

theorem OB.setB {w wr wx : World} {gb : Nat} {b d b' : Bk} {u1 u2 u3 : Value} (h : OB w wr gb b d) (hr : RefIs wr u1 u2 u3 b') (hw : wx = ((((wr.setCell ⟨gb, 0, none⟩ u1).setCell ⟨gb, 1, none⟩ u2).setCell ⟨gb, 2, none⟩ u3).setCell ⟨gb, 3, none⟩ (.string ⟨b'.text.toArray⟩)).setCell ⟨gb, 4, none⟩ (.int .i64 (b'.T.length : Nat))) : OB w wx gb b' d := by
  obtain ⟨v1, v2, v3, h1, h2⟩ := h.bx
  obtain ⟨y1, y2, y3, h3, h4⟩ := h.dx
  have hlo := h.lo
  obtain ⟨k1, k2, k3, k4, k5⟩ := book_far h1 hr hw
  exact ⟨(k2 _ (by omega)).trans h.z, ⟨u1, u2, u3, k5, k1⟩, ⟨y1, y2, y3, (k2 _ (by omega)).trans h3, (book_far h1 h4 hw).1⟩, h.lo, h.bel.trans (k4 _ (by omega))⟩
theorem OB.setD {w wr wx : World} {gb : Nat} {b d b' : Bk} {u1 u2 u3 : Value} (h : OB w wr gb b d) (hr : RefIs wr u1 u2 u3 b') (hw : wx = ((((wr.setCell ⟨gb + 1, 0, none⟩ u1).setCell ⟨gb + 1, 1, none⟩ u2).setCell ⟨gb + 1, 2, none⟩ u3).setCell ⟨gb + 1, 3, none⟩ (.string ⟨b'.text.toArray⟩)).setCell ⟨gb + 1, 4, none⟩ (.int .i64 (b'.T.length : Nat))) : OB w wx gb b b' := by
  obtain ⟨v1, v2, v3, h1, h2⟩ := h.bx
  obtain ⟨y1, y2, y3, h3, h4⟩ := h.dx
  have hlo := h.lo
  obtain ⟨k1, k2, k3, k4, k5⟩ := book_far h3 hr hw
  exact ⟨(k2 _ (by omega)).trans h.z, ⟨v1, v2, v3, (k2 _ (by omega)).trans h1, (book_far h3 h2 hw).1⟩, ⟨u1, u2, u3, k5, k1⟩, h.lo, h.bel.trans (k4 _ (by omega))⟩

/-- what a line that is well does to what is done -/
theorem cmd_whole {b : Bk} (hw : b.ok) {c : Cmd} (h : b.cmdE c = 0) : ((b.cmd c).G = [] → (b.cmd c).whole = b.cmd c) ∧ ((b.cmd c).G ≠ [] → (b.cmd c).whole = b.whole) := by
  refine ⟨fun h1 => ?_, fun h1 => ?_⟩
  · unfold Bk.whole
    rw [h1, List.length_nil, Nat.sub_zero, List.take_length]
    generalize b.cmd c = x at h1
    cases x
    simp only at h1
    subst h1
    rfl
  · cases c with
    | w p v =>
      have e : b.cmd (.w p v) = b.put (p : Int).toNat (v : Int).toNat := by
        change b.write p v = _
        unfold Bk.write
        exact if_pos h
      rw [e]
      exact put_whole hw.waits _ _
    | d =>
      exfalso
      apply h1
      change b.done.G = []
      unfold Bk.done
      rw [if_neg (fun h60 => by change b.doneE = 0 at h; unfold Bk.doneE at h; rw [if_pos h60] at h; cases h)]
      rfl
    | bad e => rfl

theorem lines_at {WL : List (List UInt8)} {k : Nat} {b : Bk} {l : List UInt8} (h : Bk.new.lines (WL.take k) = (b, 0, k)) (hl : WL[k]? = some l) :
    (b.cmdE (parse l) ≠ 0 → Bk.new.lines WL = (b, b.cmdE (parse l), k + 1)) ∧ (b.cmdE (parse l) = 0 → Bk.new.lines (WL.take (k + 1)) = (b.cmd (parse l), 0, k + 1)) := by
  have hk := (List.getElem?_eq_some_iff.1 hl).1
  refine ⟨fun hne => ?_, fun he => ?_⟩
  · have h1 := Bk.lines_snoc h l (WL.drop (k + 1))
    have e : WL.take k ++ l :: WL.drop (k + 1) = WL := by
      have h2 := List.take_append_drop k WL
      rw [List.drop_eq_getElem_cons hk, (List.getElem?_eq_some_iff.1 hl).2] at h2
      exact h2
    rw [e, if_neg hne] at h1
    exact h1
  · have h1 := Bk.lines_snoc h l []
    rw [if_pos he] at h1
    rw [List.take_succ_eq_append_getElem hk, (List.getElem?_eq_some_iff.1 hl).2]
    rw [h1]
    simp [Bk.lines]

def ROpenRes (t : List UInt8) (w' : World) (e : Ending) : Prop :=
  ∃ v, e = .returned (.tuple #[v, .int .i64 (openN t : Nat), .int .i64 (openE t : Nat)]) ∧ match openB t with
    | none => v = noBook
    | some b => ∃ v1 v2 v3, v = refV v1 v2 v3 b ∧ RefIs w' v1 v2 v3 b

theorem ropen_bad {t : List UInt8} {w' : World} {n e : Nat} (h1 : openB t = none) (h2 : openN t = n) (h3 : openE t = e) : ROpenRes t w' (.returned (.tuple #[noBook, .int .i64 (n : Nat), .int .i64 (e : Nat)])) := by
  refine ⟨_, by rw [h2, h3], ?_⟩
  rw [h1]
theorem ropen_ok {t : List UInt8} {w' : World} {n : Nat} {b : Bk} {v1 v2 v3 : Value} (h1 : openB t = some b) (h2 : openN t = n) (h3 : openE t = 0) (hr : RefIs w' v1 v2 v3 b) : ROpenRes t w' (.returned (.tuple #[refV v1 v2 v3 b, .int .i64 (n : Nat), .int .i64 0])) := by
  refine ⟨_, by rw [h2, h3]; rfl, ?_⟩
  rw [h1]
  exact ⟨v1, v2, v3, rfl, hr⟩

theorem open_stop {t : List UInt8} {b : Bk} {k e : Nat} (ht : t.length ≤ 2000) (h : Bk.new.lines (wholeLines t) = (b, e, k)) : openN t = k ∧ openE t = e ∧ (e ≠ 0 → openB t = none) ∧ (e = 0 → openB t = some b.whole) := by
  unfold openN openE openB
  rw [if_neg (by omega), if_neg (by omega), if_neg (by omega), h]
  exact ⟨rfl, rfl, fun he => if_neg he, fun he => if_pos he⟩

set_option maxRecDepth 100000 in
set_option maxHeartbeats 8000000 in
theorem refopen_walk (s : ByteArray) (w : World) (hs : s.size ≤ 140737488351232) :
    Calls Tryz.prog 32 #[.string s] w fun e w' => ROpenRes s.data.toList w' e ∧ Below w.heap.size w w' := by
  have hl : s.data.toList.length = s.size := rfl
  have HL := Lib.hid hl
  clear hl
  obtain ⟨W1, hW1⟩ : ∃ W1, W1 = w.alloc (.cells #[.slice none 0 0, .slice none 0 0, .slice none 0 0, .string ⟨#[]⟩, .int .i64 0] 44) := ⟨_, rfl⟩
  have hbl : Below w.heap.size w W1 := by rw [hW1]; exact (Below.refl _ _).alloc (Nat.le_refl _) _
  have hZ : W1.heap[w.heap.size]? = some (.cells #[.slice none 0 0, .slice none 0 0, .slice none 0 0, .string ⟨#[]⟩, .int .i64 0] 44 (0, 0)) := by
    rw [hW1]
    exact heap_alloc_new w _
  have hsz1 : W1.heap.size = w.heap.size + 1 := by rw [hW1]; simp
  have HBL := Lib.hid hbl
  have HZ := Lib.hid hZ
  have HW1 := Lib.hid hW1
  have HS1 := Lib.hid hsz1
  clear hbl hZ hW1 hsz1
  go_enter Tryz.func32, Tryz.ntmps32
  by_cases hlong : 2000 < s.size
  · have q1 : decide ((2000 : Int) < (s.size : Int)) = true := decide_eq_true (by omega)
    obtain ⟨⟨y0, y1, y2, y3, y4⟩, ⟨f0, f1, f2, f3, f4⟩⟩ := cells5 HZ.out
    go_wp2_with (rw [← HW1.out])
    obtain ⟨h1, h2, h3⟩ : openB s.data.toList = none ∧ openN s.data.toList = 0 ∧ openE s.data.toList = 4 := by
      unfold openB openN openE
      rw [HL.out, if_pos hlong, if_pos hlong, if_pos hlong]
      exact ⟨rfl, rfl, rfl⟩
    have hnil : RefIs W1 (.slice none 0 0) (.slice none 0 0) (.slice none 0 0) ⟨[], [], []⟩ := ⟨HasInts.nil .., HasInts.nil .., HasInts.nil .., fun _ => rfl, fun _ => rfl, IntRow.nil _, IntRow.nil _, IntRow.nil _⟩
    obtain ⟨-, -, -, k4, k5⟩ := book_far HZ.out hnil rfl
    exact bodyPost_ret (results_row3 (p := 2) (a := 3) (b := 4) rfl rfl (load_book k5)) rfl ⟨ropen_bad h1 h2 h3, HBL.out.trans (k4 _ (Nat.le_refl _))⟩
  have q1 : decide ((2000 : Int) < (s.size : Int)) = false := decide_eq_false (by omega)
  have hs2 : s.size ≤ 2000 := by omega
  go_wp2_with fail
  rw [← HW1.out]
  clear HW1
  refine (newbook_walk W1).mono ?_
  rintro e w2 ⟨⟨v1, v2, v3, rfl, hr2⟩, hb2⟩
  obtain ⟨gb, hgb⟩ : ∃ g, g = w2.heap.size := ⟨_, rfl⟩
  obtain ⟨W3, hW3⟩ : ∃ W3, W3 = (w2.alloc (.cells #[v1, v2, v3, .string ⟨Bk.new.text.toArray⟩, .int .i64 (Bk.new.T.length : Nat)] 44)).alloc (.cells #[v1, v2, v3, .string ⟨Bk.new.text.toArray⟩, .int .i64 (Bk.new.T.length : Nat)] 44) := ⟨_, rfl⟩
  have hb3 : Below w2.heap.size w2 W3 := by rw [hW3]; exact ((Below.refl _ _).alloc (Nat.le_refl _) _).alloc (by simp) _
  have HOB : Hid (OB w W3 gb Bk.new Bk.new) := Lib.hid (by
    have hb23 := hb2.trans (hb3.mono hb2.size)
    refine ⟨(hb23.block _ (lt_of_heap HZ.out)).trans HZ.out, ⟨v1, v2, v3, ?_, hr2.below hb3⟩, ⟨v1, v2, v3, ?_, hr2.below hb3⟩, ?_, HBL.out.trans (hb23.mono HBL.out.size)⟩
    · rw [hW3, hgb]
      exact (Below.heap_alloc _ _ _ (by simp)).trans (heap_alloc_new w2 _)
    · rw [hW3, hgb]
      have h := heap_alloc_new (w2.alloc (.cells #[v1, v2, v3, .string ⟨Bk.new.text.toArray⟩, .int .i64 (Bk.new.T.length : Nat)] 44)) (.cells #[v1, v2, v3, .string ⟨Bk.new.text.toArray⟩, .int .i64 (Bk.new.T.length : Nat)] 44)
      rw [World.size_alloc] at h
      exact h
    · have h1 := hb2.size
      rw [HS1.out] at h1
      omega)
  have HGB := Lib.hid hgb
  have HW3 := Lib.hid hW3
  clear hb3 hW3 hgb
  obtain ⟨a1, n1, m1, rfl, -⟩ := hr2.r1.sl
  obtain ⟨a2, n2, m2, rfl, -⟩ := hr2.r2.sl
  obtain ⟨a3, n3, m3, rfl, -⟩ := hr2.r3.sl
  clear hr2 hb2
  unfold refV
  obtain ⟨tx, htx⟩ := named Bk.new.text
  obtain ⟨mm, hmm⟩ : ∃ m, m = Bk.new.T.length := ⟨_, rfl⟩
  rw [← htx, ← hmm] at HW3 ⊢
  clear htx hmm
  go_wp2_with fail
  rw [← HW3.out, ← HGB.out]
  clear HW3 HGB
  have HCW : Hid (Calls Tryz.prog 26 #[.string s, .int .u8 10] W3 fun e w' => (∃ v L, e = .returned v ∧ w'.ownsRow W3.heap.size 9 1 v L.length (strsV L) ∧ L.map (·.data.toList) = cutAt 10 s.data.toList ∧ L.length ≤ s.size + 1) ∧ Below W3.heap.size W3 w') := Lib.hid (refcut_walk s 10 W3 (by omega))
  refine HCW.out.mono ?_
  rintro e w5 ⟨⟨v, L, rfl, hown, hLd, hLn⟩, hb5⟩
  obtain ⟨n, hn⟩ : ∃ n, L.length = n + 1 := by
    cases L with
    | nil => exact absurd hLd.symm (cutAt_ne 10 _)
    | cons x t => exact ⟨t.length, rfl⟩
  rw [hn] at hown hLn
  obtain ⟨yy, cap, rfl, hown2⟩ := own_some hown (by omega)
  have hwl : (wholeLines s.data.toList).length = n := by
    unfold wholeLines
    rw [← hLd, List.length_dropLast, List.length_map, hn]
    rfl
  have hstr : ∀ (j : Nat), j < n → ∃ y, (wholeLines s.data.toList)[j]? = some y.data.toList ∧ w5.cell? ⟨yy, j, none⟩ = some (.string y) := fun j hj => by
    refine ⟨L[j]'(by omega), ?_, ?_⟩
    · unfold wholeLines
      rw [← hLd, List.getElem?_dropLast]
      rw [if_pos (by rw [List.length_map, hn]; omega), List.getElem?_map, List.getElem?_eq_getElem (by omega : j < L.length)]
      rfl
    · rw [hown2.cellAt j (by omega)]
      unfold strsV
      rw [List.getElem?_map, List.getElem?_eq_getElem (by omega)]
      rfl
  have hyl : yy < w5.heap.size ∧ gb + 1 < yy := by
    obtain ⟨_, _, _, hdx, -⟩ := HOB.out.dx
    have h1 := lt_of_heap hdx
    have h2 := hown2.lt yy rfl
    exact ⟨h2.2, by omega⟩
  have HWL := Lib.hid hwl
  have HSTR := Lib.hid hstr
  have HYL := Lib.hid hyl
  have HO5 := Lib.hid (HOB.out.below hb5)
  have hln : n ≤ 2000 := by omega
  clear hown hown2 hLd hstr hyl hb5 hLn hn HCW HOB hwl
  go_wp2_with fail
  go_loopw [8] (fun ix wr => ∃ (k : Nat) (b : Bk), k ≤ n ∧ ix = .int .i64 (k : Int) ∧ Bk.new.lines ((wholeLines s.data.toList).take k) = (b, 0, k) ∧ b.ok ∧ OB w wr gb b b.whole ∧ wr.heap[yy]? = w5.heap[yy]?) (fun ix _ => n + 1 - (intOf ix).toNat)
  case atStart => exact ⟨0, Bk.new, Nat.zero_le _, rfl, rfl, Bk.new_ok, HO5.out, rfl⟩
  case round =>
    obtain ⟨k, b, hk, rfl, hli, hok, hob, hbc⟩ := hrel
    have HLI := Lib.hid hli
    have HOK := Lib.hid hok
    have HOB := Lib.hid hob
    have HBC := Lib.hid hbc
    have HBR := Lib.hid hob.bel
    clear hli hok hob hbc
    by_cases hlt : k < n
    · have hq1 : decide (k < n) = true := decide_eq_true hlt
      have hq2 : decide ((k : Int) < (n : Int)) = true := decide_eq_true (by omega)
      have hq3 : decide ((k : Int) + 1 < (n : Int) + 1) = true := decide_eq_true (by omega)
      obtain ⟨y, hy, hcy0⟩ := HSTR.out k hlt
      have hcy : wr.cell? ⟨yy, k, none⟩ = some (.string y) := (cell_of_heap HBC.out k).trans hcy0
      have hysz : y.size ≤ 100000 := by
        have h1 := wholeLines_short s.data.toList y.data.toList (List.mem_of_getElem? hy)
        have h3 : y.data.toList.length = y.size := rfl
        rw [HL.out] at h1
        omega
      have HY := Lib.hid hy
      have s2 : (0 : Int) ≤ (k : Int) := by omega
      have s3 : (k : Int) < (n : Int) + 1 := by omega
      obtain ⟨v1, v2, v3, hbx, hrx⟩ := HOB.out.bx
      have HBX := Lib.hid hbx
      have HRX := Lib.hid hrx
      obtain ⟨a4, n4, m4, rfl, -⟩ := hrx.r1.sl
      obtain ⟨a5, n5, m5, rfl, -⟩ := hrx.r2.sl
      obtain ⟨a6, n6, m6, rfl, -⟩ := hrx.r3.sl
      obtain ⟨⟨i0, i1, i2, i3, i4⟩, -⟩ := cells5 hbx
      clear hbx hrx hy hcy0
      go_upto_region 9 with fail
      go_cut [9, 10] (fun c9 c10 wx => ∃ gc u1 u2 u3, c9 = .pointer (some ⟨gc, 0, none⟩) ∧ c10 = .int .i64 (b.cmdE (parse y.data.toList) : Nat) ∧ gb + 1 < gc ∧ wx.heap[gc]? = some (bookCells u1 u2 u3 (b.cmd (parse y.data.toList))) ∧ RefIs wx u1 u2 u3 (b.cmd (parse y.data.toList)) ∧ Below wr.heap.size wr wx)
      case first =>
        have hba : Below wr.heap.size wr (wr.alloc (.cells #[.slice none 0 0, .slice none 0 0, .slice none 0 0, .string ⟨#[]⟩, .int .i64 0] 44)).drew := ((Below.refl _ _).alloc (Nat.le_refl _) _).drew
        have hca : (wr.alloc (.cells #[.slice none 0 0, .slice none 0 0, .slice none 0 0, .string ⟨#[]⟩, .int .i64 0] 44)).drew.heap[wr.heap.size]? = some (.cells #[.slice none 0 0, .slice none 0 0, .slice none 0 0, .string ⟨#[]⟩, .int .i64 0] 44 (0, 0)) := heap_alloc_new wr _
        obtain ⟨_, _, _, hbxA, -⟩ := HOB.out.bx
        have hblt := lt_of_heap hbxA
        have iA0 := (hba.cell (p := ⟨gb, 0, none⟩) hblt).trans i0
        have iA1 := (hba.cell (p := ⟨gb, 1, none⟩) hblt).trans i1
        have iA2 := (hba.cell (p := ⟨gb, 2, none⟩) hblt).trans i2
        have iA3 := (hba.cell (p := ⟨gb, 3, none⟩) hblt).trans i3
        have iA4 := (hba.cell (p := ⟨gb, 4, none⟩) hblt).trans i4
        clear hbxA hblt
        have hcyA := (hba.cell (p := ⟨yy, k, none⟩) (lt_of_heap' HYL.out.1 HBC.out)).trans hcy
        have HBA := Lib.hid hba
        have HCA := Lib.hid hca
        clear hba hca
        go_region_law (go_simp; go_at_call 51; first | (refine (refline_walk _ _ _ _ b y (HRX.out.below HBA.out) HOK.out hysz).mono ?_; rintro e6 w6 ⟨⟨u1, u2, u3, he6, hr6⟩, hb6⟩; obtain ⟨a7, n7, m7, rfl, -⟩ := hr6.r1.sl; obtain ⟨a8, n8, m8, rfl, -⟩ := hr6.r2.sl; obtain ⟨a9, n9, m9, rfl, -⟩ := hr6.r3.sl; obtain ⟨tx6, htx6⟩ : ∃ tx6 : ByteArray, tx6 = ⟨(b.cmd (parse y.data.toList)).text.toArray⟩ := ⟨_, rfl⟩; have he6' : e6 = .returned (.tuple #[.agg #[.slice a7 n7 m7, .slice a8 n8 m8, .slice a9 n9 m9, .string tx6, .int .i64 ((b.cmd (parse y.data.toList)).T.length : Nat)], .int .i64 (b.cmdE (parse y.data.toList) : Nat)]) := (by rw [htx6]; exact he6); subst he6'; have HTX6 := Lib.hid htx6; have HR6 := Lib.hid hr6; have HB6 := Lib.hid (HBA.out.trans (hb6.mono HBA.out.size)); have HC6 := Lib.hid ((hb6.block _ (lt_of_heap HCA.out)).trans HCA.out); obtain ⟨⟨e0, e1, e2, e3, e4⟩, ⟨z0, z1, z2, z3, z4⟩⟩ := cells5 HC6.out; clear hb6 hr6 he6 htx6) | (refine (refline_walk _ _ _ _ b y (HRX.out.below (Below.refl wr.heap.size wr).drew) HOK.out hysz).mono ?_; rintro e6 w6 ⟨⟨u1, u2, u3, he6, hr6⟩, hb6⟩; obtain ⟨a7, n7, m7, rfl, -⟩ := hr6.r1.sl; obtain ⟨a8, n8, m8, rfl, -⟩ := hr6.r2.sl; obtain ⟨a9, n9, m9, rfl, -⟩ := hr6.r3.sl; obtain ⟨tx6, htx6⟩ : ∃ tx6 : ByteArray, tx6 = ⟨(b.cmd (parse y.data.toList)).text.toArray⟩ := ⟨_, rfl⟩; have he6' : e6 = .returned (.tuple #[.agg #[.slice a7 n7 m7, .slice a8 n8 m8, .slice a9 n9 m9, .string tx6, .int .i64 ((b.cmd (parse y.data.toList)).T.length : Nat)], .int .i64 (b.cmdE (parse y.data.toList) : Nat)]) := (by rw [htx6]; exact he6); subst he6'; have HTX6 := Lib.hid htx6; have HR6 := Lib.hid hr6; have HB6 := Lib.hid ((Below.refl wr.heap.size wr).drew.trans hb6); clear hb6 hr6 he6 htx6))
        all_goals
          go_wp2_with fail
          go_meet
          obtain ⟨_, _, _, hdx, -⟩ := HOB.out.dx
          have h1 := lt_of_heap hdx
          have h2 := HB6.out.size
          first
            | (obtain ⟨k1, k2, -, -, k3⟩ := book_put HC6.out HR6.out (x4 := .string tx6) (x5 := .int .i64 ((b.cmd (parse y.data.toList)).T.length : Nat)) rfl
               refine ⟨_, _, _, _, rfl, rfl, by omega, ?_, k1, HB6.out.trans (k3 _ (Nat.le_refl _))⟩
               rw [k2, HTX6.out]
               rfl)
            | (have hba : ∀ o, Below w6.heap.size w6 (w6.alloc o) := fun o => (Below.refl _ _).alloc (Nat.le_refl _) _
               refine ⟨_, _, _, _, rfl, rfl, by omega, ?_, HR6.out.below (hba _), HB6.out.trans ((hba _).mono h2)⟩
               rw [HTX6.out]
               exact heap_alloc_new w6 _)
      case rest =>
        obtain ⟨gc, u1, u2, u3, rfl, rfl, hgc, hcc, hrc, hbw⟩ := hcut
        obtain ⟨w6, rfl⟩ : ∃ w6, w6 = wc := ⟨_, rfl⟩
        obtain ⟨c, hc⟩ : ∃ c, c = b.cmd (parse y.data.toList) := ⟨_, rfl⟩
        obtain ⟨E, hE⟩ : ∃ E, E = b.cmdE (parse y.data.toList) := ⟨_, rfl⟩
        rw [← hc] at hcc hrc
        rw [← hE]
        have HC := Lib.hid hc
        have HE := Lib.hid hE
        have HOB6 := Lib.hid (HOB.out.below hbw)
        have HB6 := Lib.hid ((hbw.block yy (by have h := lt_of_heap' HYL.out.1 HBC.out; exact h)).trans HBC.out)
        have HRC := Lib.hid hrc
        obtain ⟨a7, n7, m7, rfl, -⟩ := hrc.r1.sl
        obtain ⟨a8, n8, m8, rfl, -⟩ := hrc.r2.sl
        obtain ⟨a9, n9, m9, rfl, -⟩ := hrc.r3.sl
        obtain ⟨⟨e0, e1, e2, e3, e4⟩, -⟩ := cells5 hcc
        clear hc hE hbw hrc i0 i1 i2 i3 i4 hcc
        by_cases hz : E = 0
        rotate_left
        · have q4 : ((E : Int) != 0) = true := bne_iff_ne.2 (by omega)
          have hfin := (lines_at HLI.out HY.out).1 (by rw [← HE.out]; exact hz)
          rw [← HE.out] at hfin
          obtain ⟨h1, h2, h3, -⟩ := open_stop (by rw [HL.out]; omega) hfin
          have HF := Lib.hid (And.intro h1 (And.intro h2 (h3 hz)))
          have s5 : IntKind.i64.wrap ((k : Int) + 1) = ((k + 1 : Nat) : Int) := by rw [IntWalk.i64_in _ (by omega)]; omega
          obtain ⟨⟨y0, y1, y2, y3, y4⟩, ⟨f0, f1, f2, f3, f4⟩⟩ := cells5 HOB6.out.z
          clear hfin h1 h2 h3 hz
          go_wp2_with fail
          have hnil : RefIs w6 (.slice none 0 0) (.slice none 0 0) (.slice none 0 0) ⟨[], [], []⟩ := ⟨HasInts.nil .., HasInts.nil .., HasInts.nil .., fun _ => rfl, fun _ => rfl, IntRow.nil _, IntRow.nil _, IntRow.nil _⟩
          obtain ⟨-, -, -, k4, k5⟩ := book_far HOB6.out.z hnil rfl
          exact bodyPost_ret (results_row3 (p := 2) (a := 3) (b := 4) rfl rfl (load_book k5)) rfl ⟨ropen_bad HF.out.2.2 HF.out.1 HF.out.2.1, HOB6.out.bel.trans (k4 _ (Nat.le_refl _))⟩
        have q4 : ((E : Int) != 0) = false := by rw [hz]; rfl
        have hst := (lines_at HLI.out HY.out).2 (by rw [← HE.out]; exact hz)
        have hwh := cmd_whole HOK.out (c := parse y.data.toList) (by rw [← HE.out]; exact hz)
        have hokc := HOK.out.cmd (parse y.data.toList)
        rw [← HC.out] at hst hwh hokc
        have HST := Lib.hid hst
        have HWH := Lib.hid hwh
        have HOKC := Lib.hid hokc
        obtain ⟨_, _, _, hbx6, -⟩ := HOB6.out.bx
        obtain ⟨⟨y0, y1, y2, y3, y4⟩, ⟨f0, f1, f2, f3, f4⟩⟩ := cells5 hbx6
        clear hst hwh hokc hbx6 hz
        go_upto_region 12 with fail
        go_cut [] (fun wx => OB w wx gb c b.whole ∧ wx.heap[yy]? = w5.heap[yy]?)
        case first =>
          go_wp2_with fail
          go_meet
          obtain ⟨_, _, _, hbx7, -⟩ := HOB6.out.bx
          have hyl := HYL.out
          exact ⟨HOB6.out.setB HRC.out rfl, ((book_far hbx7 HRC.out rfl).2.1 yy (by omega)).trans HB6.out⟩
        case rest =>
          obtain ⟨hob, hbc⟩ := hcut
          have HOB7 := Lib.hid hob
          have HBC7 := Lib.hid hbc
          obtain ⟨v1, v2, v3, hbx, hrx⟩ := hob.bx
          have HRX7 := Lib.hid hrx
          obtain ⟨b4, l4, k4, rfl, -⟩ := hrx.r1.sl
          obtain ⟨b5, l5, k5, rfl, hl5⟩ := hrx.r2.sl
          obtain ⟨b6, l6, k6, rfl, -⟩ := hrx.r3.sl
          rw [natsI, List.length_map, List.length_map] at hl5
          obtain ⟨⟨i0, i1, i2, i3, i4⟩, -⟩ := cells5 hbx
          clear y0 y1 y2 y3 y4 f0 f1 f2 f3 f4 e0 e1 e2 e3 e4 hob hbc hbx hrx
          by_cases hG : c.G = []
          · have q5 : ((l5 : Int) == 0) = true := by rw [hl5, hG]; rfl
            obtain ⟨_, _, _, hdx, -⟩ := HOB7.out.dx
            obtain ⟨⟨y0, y1, y2, y3, y4⟩, ⟨f0, f1, f2, f3, f4⟩⟩ := cells5 hdx
            have hwc := HWH.out.1 hG
            have HWC := Lib.hid hwc
            clear hl5 hG hdx hwc
            go_wp2_with fail
            go_roundw
            case rel =>
              obtain ⟨_, _, _, hdx8, -⟩ := HOB7.out.dx
              have hyl := HYL.out
              exact ⟨k + 1, c, by omega, by first | (congr 1; omega) | (congr 1; rw [IntWalk.i64_in _ (by omega)]; omega) | go_num, HST.out, HOKC.out, by rw [HWC.out]; exact HOB7.out.setD HRX7.out rfl, ((book_far hdx8 HRX7.out rfl).2.1 yy (by omega)).trans HBC7.out⟩
            case measure => simp [intOf]; omega
          · have q5 : ((l5 : Int) == 0) = false := beq_eq_false_iff_ne.2 (fun e => hG (List.length_eq_zero_iff.1 (by omega)))
            have hwc := HWH.out.2 hG
            have HWC := Lib.hid hwc
            clear hl5 hG hwc
            go_wp2_with fail
            go_roundw
            case rel => exact ⟨k + 1, c, by omega, by first | (congr 1; omega) | (congr 1; rw [IntWalk.i64_in _ (by omega)]; omega) | go_num, HST.out, HOKC.out, by rw [HWC.out]; exact HOB7.out, HBC7.out⟩
            case measure => simp [intOf]; omega
    · obtain rfl : k = n := by omega
      have hq1 : decide (k < k) = false := decide_eq_false (Nat.lt_irrefl _)
      have hq3 : decide ((k : Int) + 1 < (k : Int) + 1) = false := decide_eq_false (by omega)
      have hfin : Bk.new.lines (wholeLines s.data.toList) = (b, 0, k) := by
        have h := HLI.out
        rwa [List.take_of_length_le (by rw [HWL.out]; exact Nat.le_refl _)] at h
      obtain ⟨h1, h2, -, h3⟩ := open_stop (by rw [HL.out]; omega) hfin
      have HF := Lib.hid (And.intro h1 (And.intro h2 (h3 rfl)))
      obtain ⟨v1, v2, v3, hdx, hrx⟩ := HOB.out.dx
      have HRX := Lib.hid hrx
      obtain ⟨a4, n4, m4, rfl, -⟩ := hrx.r1.sl
      obtain ⟨a5, n5, m5, rfl, -⟩ := hrx.r2.sl
      obtain ⟨a6, n6, m6, rfl, -⟩ := hrx.r3.sl
      obtain ⟨⟨i0, i1, i2, i3, i4⟩, -⟩ := cells5 hdx
      obtain ⟨⟨y0, y1, y2, y3, y4⟩, ⟨f0, f1, f2, f3, f4⟩⟩ := cells5 HOB.out.z
      clear hrx hdx hfin h1 h2 h3
      go_wp2_with fail
      obtain ⟨k1, k2, -, -, k3⟩ := book_put HOB.out.z HRX.out (x4 := .string ⟨b.whole.text.toArray⟩) (x5 := .int .i64 (b.whole.T.length : Nat)) rfl
      refine bodyPost_ret (results_row3 (p := 2) (a := 3) (b := 4) rfl rfl (load_book k2)) rfl ⟨?_, HBR.out.trans (k3 _ (Nat.le_refl _))⟩
      exact ropen_ok HF.out.2.2 HF.out.1 HF.out.2.1 k1

end Go.Proofs.YtegibgflhhdddaaGreatDoor
