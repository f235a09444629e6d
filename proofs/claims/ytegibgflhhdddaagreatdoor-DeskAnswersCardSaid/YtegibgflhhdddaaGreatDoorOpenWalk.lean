/- Open. -/
import Derived.Test.YtegibgflhhdddaaGreatDoorOpen
import Derived.Stop.RegionWithIn
namespace Go.Proofs.YtegibgflhhdddaaGreatDoor
open Go.RowKit Go.Shelf
attribute [local go_sem] Oper.semAt_some

theorem lines_fn (w : World) (s : ByteArray) :
    Calls Tryz.prog 7 #[.string s] w fun e w' => e = .returned (.func (.func 15) #[] #[.pointer (some ⟨w.heap.size, 0, none⟩)]) ∧ w' = w.alloc (.cells #[.string s] 9) := by
  go_enter Tryz.func7, Tryz.ntmps7
  go_wp2_with fail
  go_ret
  exact ⟨rfl, rfl⟩

theorem new_walk' (w : World) :
    Calls Tryz.prog 6 #[] w fun e w' => e = .returned (.pointer (some ⟨w.heap.size, 0, none⟩)) ∧ BookIs w' w.heap.size Bk.new ∧ Below w.heap.size w w' ∧ w'.heap.size = w.heap.size + 1 := by
  go_enter Tryz.func6, Tryz.ntmps6
  go_wp2_with fail
  go_ret
  exact ⟨rfl, (new_at (heap_alloc_new w _)).1, (Below.refl _ _).alloc (Nat.le_refl _) _, by simp⟩

theorem alloc_at {w : World} {o : Obj} {z : Nat} (hz : w.heap.size = z) : (w.alloc o).heap[z]? = some o := by subst hz; exact World.alloc_heap_new w o
theorem alloc_old {w : World} {o : Obj} {x : Nat} (hx : x < w.heap.size) : (w.alloc o).heap[x]? = w.heap[x]? := Below.heap_alloc _ _ _ hx

theorem open_start (t : List UInt8) (w w1 : World) (z : Nat) (s : ByteArray) (hz : w.heap.size = z) (hbk : BookIs w1 (z + 3) Bk.new) (hz1 : w1.heap.size = z + 4)
    (hb : Below (z + 3) (((w.alloc (.cells #[.pointer none] 24)).alloc (.cells #[.int .i64 0] 3)).alloc (.cells #[.nilIface] 36)) w1) :
    OpenI t w z 0 (((w1.alloc (.cells #[.pointer (some ⟨z + 3, 0, none⟩)] 24)).alloc (.cells #[.int .i64 0] 3)).alloc (.cells #[.string s] 9)) := by
  have s1 : (w.alloc (.cells #[.pointer none] 24)).heap.size = z + 1 := by simp [hz]
  have s2 : ((w.alloc (.cells #[.pointer none] 24)).alloc (.cells #[.int .i64 0] 3)).heap.size = z + 2 := by simp [hz]
  have s3 : (((w.alloc (.cells #[.pointer none] 24)).alloc (.cells #[.int .i64 0] 3)).alloc (.cells #[.nilIface] 36)).heap.size = z + 3 := by simp [hz]
  have s5 : (w1.alloc (.cells #[.pointer (some ⟨z + 3, 0, none⟩)] 24)).heap.size = z + 5 := by simp [hz1]
  have s6 : ((w1.alloc (.cells #[.pointer (some ⟨z + 3, 0, none⟩)] 24)).alloc (.cells #[.int .i64 0] 3)).heap.size = z + 6 := by simp [hz1]
  have up : ∀ x, x < z + 4 → (((w1.alloc (.cells #[.pointer (some ⟨z + 3, 0, none⟩)] 24)).alloc (.cells #[.int .i64 0] 3)).alloc (.cells #[.string s] 9)).heap[x]? = w1.heap[x]? := fun x hx =>
    (alloc_old (by omega)).trans ((alloc_old (by omega)).trans (alloc_old (by omega)))
  have hbl : Below (z + 4) w1 (((w1.alloc (.cells #[.pointer (some ⟨z + 3, 0, none⟩)] 24)).alloc (.cells #[.int .i64 0] 3)).alloc (.cells #[.string s] 9)) :=
    (((Below.refl _ w1).alloc (by omega) _).alloc (by simp; omega) _).alloc (by simp; omega) _
  have hb0 : Below z w (((w.alloc (.cells #[.pointer none] 24)).alloc (.cells #[.int .i64 0] 3)).alloc (.cells #[.nilIface] 36)) :=
    (((Below.refl _ w).alloc (by omega) _).alloc (by simp; omega) _).alloc (by simp; omega) _
  refine ⟨Nat.zero_le _, Bk.new, ⟨hbk.later (by rw [hz1]; exact hbl), ?_, ?_, ?_, ?_, ?_, ⟨.string s, ?_⟩, (hb0.trans (hb.mono (by omega))).trans (hbl.mono (by omega))⟩, Bk.new_ok, rfl⟩
  · exact (up z (by omega)).trans ((hb.block z (by omega)).trans ((alloc_old (by omega)).trans ((alloc_old (by omega)).trans (alloc_at hz))))
  · exact (up (z + 1) (by omega)).trans ((hb.block (z + 1) (by omega)).trans ((alloc_old (by omega)).trans (alloc_at s1)))
  · exact (up (z + 2) (by omega)).trans ((hb.block (z + 2) (by omega)).trans (alloc_at s2))
  · exact (alloc_old (by omega)).trans ((alloc_old (by omega)).trans (alloc_at hz1))
  · exact (alloc_old (by omega)).trans (alloc_at s5)
  · exact alloc_at s6

theorem results_cells3 {fn : Func} {p q r : Tmp} {tp tq tr : TypeId} (h : fn.results = #[.cell p tp, .cell q tq, .cell r tr]) {tmps : Array Value} {w : World} {P : Program} {a b c : Nat} {x y z : Value}
    (hp : tmps.getD p undef = .pointer (some ⟨a, 0, none⟩)) (hq : tmps.getD q undef = .pointer (some ⟨b, 0, none⟩)) (hr : tmps.getD r undef = .pointer (some ⟨c, 0, none⟩))
    (h1 : (loadVar tp ⟨a, 0, none⟩).run P w = .ok x w) (h2 : (loadVar tq ⟨b, 0, none⟩).run P w = .ok y w) (h3 : (loadVar tr ⟨c, 0, none⟩).run P w = .ok z w) : (results fn tmps).run P w = .ok (.tuple #[x, y, z]) w := by
  have hp' : tmps[p]?.getD undef = .pointer (some ⟨a, 0, none⟩) := by simpa using hp
  have hq' : tmps[q]?.getD undef = .pointer (some ⟨b, 0, none⟩) := by simpa using hq
  have hr' : tmps[r]?.getD undef = .pointer (some ⟨c, 0, none⟩) := by simpa using hr
  simp [results, h, hp', hq', hr', asAddr, h1, h2, h3]
theorem load_ptr {w : World} {a : Nat} {v : Value} (h : Boxed w a 24 v) : (loadVar 24 ⟨a, 0, none⟩).run Tryz.prog w = .ok v w := by
  have hc := h.cell
  simp [loadVar, go_sem, hc]
theorem load_int {w : World} {a : Nat} {v : Value} (h : Boxed w a 3 v) : (loadVar 3 ⟨a, 0, none⟩).run Tryz.prog w = .ok v w := by
  have hc := h.cell
  simp [loadVar, go_sem, hc]
theorem load_err {w : World} {a : Nat} {v : Value} (h : Boxed w a 36 v) : (loadVar 36 ⟨a, 0, none⟩).run Tryz.prog w = .ok v w := by
  have hc := h.cell
  simp [loadVar, go_sem, hc]

structure OpenRest (w0 W w6 : World) (z : Nat) (b : Bk) (k : Nat) (u2 u3 u4 : Value) : Prop where
  r2 : Boxed w6 z 24 u2
  r3 : Boxed w6 (z + 1) 3 u3
  r4 : Boxed w6 (z + 2) 36 u4
  ff : Boxed w6 (z + 5) 3 (.int .i64 (k : Nat))

theorem open_end {w W w6 : World} {z D g6 : Nat} {b : Bk} {k : Nat} {u2 u3 u4 : Value} (HO : OpenAt w W z b k u2 u3 u4) (hD : z + 7 ≤ D) (hK : W.heap[D]? = some (.deferred (some []))) (hbk6 : BookIs w6 g6 b.whole)
    (hg6 : W.drew.heap.size ≤ g6) (hbl6 : Below (z + 3) W.drew w6) (hfr6 : ∀ x, x < W.drew.heap.size → ¬ BkOwn W.drew (z + 3) x → w6.heap[x]? = W.drew.heap[x]?) (v2 v3 v4 : Value) (X : World) (hX : X = ((w6.setCell ⟨z, 0, none⟩ v2).setCell ⟨z + 1, 0, none⟩ v3).setCell ⟨z + 2, 0, none⟩ v4) :
    X.heap[D]? = some (.deferred (some [])) ∧ Boxed (X.putObj D (.deferred none)) z 24 v2 ∧ Boxed (X.putObj D (.deferred none)) (z + 1) 3 v3 ∧ Boxed (X.putObj D (.deferred none)) (z + 2) 36 v4 ∧
      BookIs (X.putObj D (.deferred none)) g6 b.whole ∧ Below z w (X.putObj D (.deferred none)) := by
  have hDl : D < W.drew.heap.size := (Array.getElem?_eq_some_iff.1 hK).1
  have hsz := hbl6.size
  have hs6 : ∀ x, x ≠ z → x ≠ z + 1 → x ≠ z + 2 → X.heap[x]? = w6.heap[x]? := fun x h1 h2 h3 => by
    rw [hX]
    exact (heap_setCell_other _ ⟨z + 2, 0, none⟩ x _ h3).trans ((heap_setCell_other _ ⟨z + 1, 0, none⟩ x _ h2).trans (heap_setCell_other _ ⟨z, 0, none⟩ x _ h1))
  have hD6 : X.heap[D]? = some (.deferred (some [])) := by
    rw [hs6 D (by omega) (by omega) (by omega), hfr6 D hDl (fun ho => ?_)]
    · exact hK
    · obtain ⟨cs, t, fr, hh, -⟩ := HO.drew.book.own_cells ho
      have h2 : W.drew.heap[D]? = some (.deferred (some [])) := hK
      rw [h2] at hh
      cases hh
  have b2 : Boxed w6 z 24 u2 := (hfr6 _ (HO.drew.far z (by simp)).1 (HO.drew.far z (by simp)).2).trans HO.drew.r2
  have b3 : Boxed w6 (z + 1) 3 u3 := (hfr6 _ (HO.drew.far (z + 1) (by simp)).1 (HO.drew.far (z + 1) (by simp)).2).trans HO.drew.r3
  have b4 : Boxed w6 (z + 2) 36 u4 := (hfr6 _ (HO.drew.far (z + 2) (by simp)).1 (HO.drew.far (z + 2) (by simp)).2).trans HO.drew.r4
  have p : ∀ x, x ≠ D → (X.putObj D (.deferred none)).heap[x]? = X.heap[x]? := fun x hx => World.putObj_heap_other hx
  have hXs : X.heap.size = w6.heap.size := by rw [hX]; simp
  have c2 : Boxed X z 24 v2 := by rw [hX]; exact ((b2.set v2).other (by omega) v3).other (by omega) v4
  have c3 : Boxed X (z + 1) 3 v3 := by rw [hX]; exact ((b3.other (by omega) v2).set v3).other (by omega) v4
  have c4 : Boxed X (z + 2) 36 v4 := by rw [hX]; exact ((b4.other (by omega) v2).other (by omega) v3).set v4
  refine ⟨hD6, (p z (by omega)).trans c2, (p (z + 1) (by omega)).trans c3, (p (z + 2) (by omega)).trans c4, ?_, ?_⟩
  · refine (hbk6.keep (by simp [World.putObj, hXs]) (fun x hx => ?_)).1
    have h1 := (hbk6.own_lt hx).1
    have h2 := HO.drew.r4.lt
    exact (p x (by omega)).trans (hs6 x (by omega) (by omega) (by omega))
  · have h1 : Below z w6 X := by
      rw [hX]
      exact (((Below.refl z w6).setCell (p := ⟨z, 0, none⟩) (Nat.le_refl _) v2).setCell (p := ⟨z + 1, 0, none⟩) (by simp) v3).setCell (p := ⟨z + 2, 0, none⟩) (by simp) v4
    have h2 : Below z X (X.putObj D (.deferred none)) := (Below.refl z X).grown (grownBy_putObj' X D _) (by omega) (fun r e => by cases e; omega)
    exact ((HO.drew.below.trans (hbl6.mono (by omega))).trans h1).trans h2

def OpenRes (t : List UInt8) (w w' : World) (e : Ending) : Prop :=
  ∃ p : Option Addr, e = .returned (.tuple #[.pointer p, .int .i64 (openN t : Nat), errV (openE t : Nat)]) ∧ (match openB t with
      | none => p = none
      | some b => ∃ g, p = some ⟨g, 0, none⟩ ∧ w.heap.size ≤ g ∧ BookIs w' g b)

set_option maxRecDepth 100000 in
set_option maxHeartbeats 2000000 in
theorem open_walk (t : List UInt8) (w : World) (B : Nat) (hB : B ≤ w.heap.size) (he : Env B w) (ht : t.length ≤ 1000000) :
    Calls Tryz.prog 42 #[.string ⟨t.toArray⟩] w fun e w' => OpenRes t w w' e ∧ Below w.heap.size w w' := by
  refine (callsIn_wide (n := 3)).1 ?_
  refine callsIn_of_wp_marks Tryz.func42 rfl trivial ?_ rfl
  simp only [Tryz.ntmps42, List.size_toArray, List.length_cons, List.length_nil, Nat.reduceAdd, Nat.reduceSub, Array.replicate_succ, Array.replicate_zero, List.push_toArray, List.append_toArray, List.nil_append, List.cons_append]
  obtain ⟨s, hs⟩ : ∃ s : ByteArray, s = ⟨t.toArray⟩ := ⟨_, rfl⟩
  have hsz : s.size = t.length := by rw [hs]; exact List.size_toArray
  rw [← hs]
  have HE := Lib.hid he
  have HS := Lib.hid hs
  have HSZ := Lib.hid hsz
  have hlim : s.size ≤ 1000000 := by omega
  clear he hs hsz
  by_cases hbig : (2000 : Int) < (s.size : Int)
  · gi_wp2
    have a1 : (w.alloc (.cells #[.pointer none] 24)).heap.size = w.heap.size + 1 := by simp
    have a2 : ((w.alloc (.cells #[.pointer none] 24)).alloc (.cells #[.int .i64 0] 3)).heap.size = w.heap.size + 1 + 1 := by simp
    refine ⟨_, results_cells3 rfl rfl rfl rfl (load_ptr (v := .pointer none) ((alloc_old (by omega)).trans ((alloc_old (by omega)).trans (alloc_at rfl)))) (load_int (v := .int .i64 0) ((alloc_old (by omega)).trans (alloc_at a1))) (load_err (alloc_at a2)), ?_, ?_⟩
    · have hnt : 2000 < t.length := by have := HSZ.out; omega
      refine ⟨none, ?_, ?_⟩
      · unfold openN openE
        rw [if_pos hnt, if_pos hnt]
        rfl
      · unfold openB
        rw [if_pos hnt]
    · exact (((Below.refl _ w).alloc (Nat.le_refl _) _).alloc (by omega) _).alloc (by omega) _
  · obtain ⟨z, hz⟩ : ∃ z, w.heap.size = z := ⟨_, rfl⟩
    gi_wp2
    refine ⟨trivial, ?_⟩
    gi_at_call 6
    refine (callsIn_wide.2 (new_walk' _)).mono ?_
    rintro _ w1 ⟨rfl, hbk1, hb1, hz1⟩
    simp only [World.size_alloc, hz, Nat.add_assoc, Nat.reduceAdd] at hbk1 hb1 hz1
    have HBK1 := Lib.hid hbk1
    have HB1 := Lib.hid hb1
    have HZ1 := Lib.hid hz1
    have HZ := Lib.hid hz
    clear hbk1 hb1 hz1 hz
    gi_wp2
    refine ⟨trivial, ?_⟩
    gi_at_call 7
    refine (callsIn_wide.2 (lines_fn _ s)).mono ?_
    rintro _ w2 ⟨rfl, hw2⟩
    simp only [World.size_alloc, HZ1.out, HZ.out, Nat.add_assoc, Nat.reduceAdd] at hw2 ⊢
    have HW2 := Lib.hid hw2
    clear hw2
    gi_wp2
    have hbox : w2.heap[z + 6]? = some (.cells #[restV t 0] 9 (0, 0)) := by
      have e : restV t 0 = .string s := by
        unfold restV
        rw [List.drop_zero, cutLines_flat, HS.out]
      rw [e, HW2.out]
      have hsz : ((w1.alloc (.cells #[.pointer (some ⟨z + 3, 0, none⟩)] 24)).alloc (.cells #[.int .i64 0] 3)).heap.size = z + 6 := by simp [HZ1.out]
      have h := heap_alloc_new ((w1.alloc (.cells #[.pointer (some ⟨z + 3, 0, none⟩)] 24)).alloc (.cells #[.int .i64 0] 3)) (.cells #[.string s] 9 (0, 0))
      rw [hsz] at h
      exact h
    have h0 : OpenI t w z 0 w2 := by rw [HW2.out]; exact open_start t w w1 z s HZ.out HBK1.out HZ1.out HB1.out
    have HI := Lib.hid h0
    have hz2 : w2.heap.size = z + 7 := by rw [HW2.out]; simp [HZ1.out]
    clear h0
    refine wpIn_range_box (F := Fence.wide) rfl (by decide) (gf := 15) (lb := #[.pointer (some ⟨z + 6, 0, none⟩)]) rfl trivial (enters_of Tryz.func15 (by kernel_rfl) rfl)
      (lines_seq 2 (z + 6) (by decide) t ht) hbox rfl (fun k W => OpenI t w z k W) (fun cd W => OpenX t w z cd W) (fun _ _ h => h.drew) (fun _ _ v h => h.boxed v) (OpenI.from t w z _ (by omega)) (fun cd => OpenX.from t w z _ cd (by omega)) HI.out
      (fun k => { tmps := #[.string s, undef, .pointer (some ⟨z, 0, none⟩), .pointer (some ⟨z + 1, 0, none⟩), .pointer (some ⟨z + 2, 0, none⟩), .pointer (some ⟨z + 4, 0, none⟩), .pointer (some ⟨z + 5, 0, none⟩), lineV t k,
          undef, undef, undef, .string s, .int .i64 s.size, .bool false, undef, .pointer (some ⟨z + 3, 0, none⟩), .string s, .func (.func 15) #[] #[.pointer (some ⟨z + 6, 0, none⟩)], lineV t k,
          undef, undef, undef, undef, undef, undef, undef, undef, undef, undef, undef, undef, undef, undef, undef, undef, undef, undef, undef], defers := [] }) ?assign ?body ?done ?stop
    case assign =>
      intro l k W K hK
      gi_wp2
      exact hK
    case body =>
      rintro l k W hi hk
      obtain ⟨b, hO, hok, hLn⟩ := hi.is
      have HO := Lib.hid hO
      have HOK := Lib.hid hok
      have HLN := Lib.hid hLn
      have hle := hi.le
      clear hO hok hLn hi
      by_cases hkw : k < (wholeLines t).length
      · obtain ⟨ln, hln⟩ : ∃ ln, (wholeLines t)[k]? = some ln := ⟨_, List.getElem?_eq_getElem hkw⟩
        obtain ⟨q, hqd, hlv⟩ : ∃ q : ByteArray, q.data.toList = ln ++ [10] ∧ lineV t k = .string q := ⟨⟨(ln ++ [10]).toArray⟩, rfl, by
          unfold lineV
          rw [(cutLines_full t k ln hln).1]⟩
        obtain ⟨y, hyd⟩ : ∃ y : ByteArray, y = ⟨ln.toArray⟩ := ⟨_, rfl⟩
        rw [hlv]
        have hlt := wholeLines_many t
        have hlt2 := wholeLines_short t ln (List.mem_of_getElem? hln)
        have hts : t.length ≤ 2000 := by have := HSZ.out; omega
        have hysz : y.size ≤ 2000 := by
          have : y.size = ln.length := by rw [hyd]; exact List.size_toArray
          omega
        have hq : q.size ≤ 9223372036854775807 := by
          have h1 : q.data.toList.length = q.size := rfl
          rw [hqd] at h1
          simp at h1
          omega
        have c5 := HO.out.bb.cell
        have c6 := HO.out.ff.cell
        have f6 := HO.out.ff.frozen
        have hwr : IntKind.i64.wrap ((k : Int) + 1) = ((k + 1 : Nat) : Int) := by rw [IntWalk.i64_in _ (by omega)]; omega
        have HLK := Lib.hid hln
        have HQ := Lib.hid hq
        have HQD := Lib.hid hqd
        have HYD := Lib.hid hyd
        have HO2 := Lib.hid (HO.out.found (k + 1))
        have c5' := HO2.out.bb.cell
        clear hlv hln hq hqd hyd hlt hlt2
        gi_wp2
        refine ⟨trivial, ?_⟩
        gi_at_call 58
        refine (CallsIn.inRound l (callsIn_wide.2 (Tryz.strings_CutSuffix q ⟨#[10]⟩ W HQ.out))).mono ?_
        rintro e w3 ⟨rfl, hw3⟩
        obtain rfl := hw3.symm
        have e1 : (⟨(Lib.trimSuffix q.data.toList (⟨#[10]⟩ : ByteArray).data.toList).toArray⟩ : ByteArray) = y := by
          rw [HYD.out, HQD.out]
          exact congrArg (fun l : List UInt8 => (⟨l.toArray⟩ : ByteArray)) (suffix_yes ln 10).2
        have e2 : Lib.hasSuffix q.data.toList (⟨#[10]⟩ : ByteArray).data.toList = true := by
          rw [HQD.out]
          exact (suffix_yes ln 10).1
        rw [e1, e2]
        clear e1 e2
        gi_wp2
        have ec : (k : Int) + 1 = ((k + 1 : Nat) : Int) := by omega
        rw [ec]
        obtain ⟨w4, hw4⟩ : ∃ w4, w4 = W.setCell ⟨z + 5, 0, none⟩ (.int .i64 ((k + 1 : Nat) : Int)) := ⟨_, rfl⟩
        rw [← hw4] at HO2 c5' ⊢
        have HW4 := Lib.hid hw4
        clear hw4 ec c5 c6 f6
        refine ⟨trivial, ?_⟩
        gi_at_call 59
        refine (CallsIn.inRound l (callsIn_wide.2 (line_walk w4 B (z + 3) b y HO2.out.book (by have := HZ.out; omega) (HE.out.on (HO2.out.below.mono (by have := HZ.out; omega))) HOK.out hysz))).mono ?_
        rintro _ w5 ⟨rfl, hbk5, hf5⟩
        have hyl : y.data.toList = ln := by rw [HYD.out]
        rw [hyl] at hbk5 ⊢
        have HO5 := Lib.hid (HO2.out.lined hbk5 hf5)
        have HKO := Lib.hid (show KeepsOthers W w5 from by
          have h1 : KeepsOthers W w4 := by rw [HW4.out]; exact KeepsOthers.setCell W _ _
          exact h1.trans (BkFrame.others HO2.out.book hf5))
        have HZ6 := Lib.hid (show w5.heap[z + 6]? = W.heap[z + 6]? from by
          have h1 : w4.heap[z + 6]? = W.heap[z + 6]? := by rw [HW4.out]; exact heap_setCell_other W ⟨z + 5, 0, none⟩ _ _ (by simp)
          exact (hf5.blocks _ (HO2.out.far _ (by simp)).1 (HO2.out.far _ (by simp)).2).trans h1)
        have hcut : wholeLines t = (wholeLines t).take k ++ ln :: (wholeLines t).drop (k + 1) := by
          have h1 := List.getElem?_eq_some_iff.1 HLK.out
          rw [← h1.2, ← List.drop_eq_getElem_cons h1.1, List.take_append_drop]
        have HCUT := Lib.hid hcut
        clear hbk5 hf5 hcut hyl
        obtain ⟨er, her⟩ : ∃ er, er = b.cmdE (parse ln) := ⟨_, rfl⟩
        rw [← her]
        have HER := Lib.hid her
        clear her
        by_cases hE : er = 0
        · have hev : errV (er : Int) = .nilIface := by rw [hE]; rfl
          rw [hev]
          clear hev
          gi_wp2
          refine ⟨HKO.out, HZ6.out, hkw, _, HO5.out, HOK.out.cmd _, ?_⟩
          have h1 : (wholeLines t).take (k + 1) = (wholeLines t).take k ++ [ln] := by
            have h1 := List.getElem?_eq_some_iff.1 HLK.out
            rw [List.take_succ_eq_append_getElem h1.1, h1.2]
          rw [h1, Bk.lines_snoc HLN.out ln [], if_pos (HER.out.symm.trans hE)]
          simp [Bk.lines]
        · obtain ⟨pv, hev⟩ : ∃ pv, errV (er : Int) = .iface 80 pv := ⟨_, if_neg (by omega)⟩
          have HEV := Lib.hid hev
          rw [hev]
          have hlines : Bk.new.lines (wholeLines t) = (b, er, k + 1) := by
            rw [HCUT.out, Bk.lines_snoc HLN.out, if_neg (by rw [← HER.out]; exact hE), ← HER.out]
          have hnt : ¬ 2000 < t.length := by omega
          have d2 := HO5.out.r2.cell
          have e2 := HO5.out.r2.frozen
          have d3 := HO5.out.r3.cell
          have e3 := HO5.out.r3.frozen
          have d4 := HO5.out.r4.cell
          have e4 := HO5.out.r4.frozen
          have d6 := HO5.out.ff.cell
          have HLI := Lib.hid hlines
          clear hev hlines
          have hNN : (k : Int) + 1 = ((openN t : Nat) : Int) := by
            unfold openN
            rw [if_neg hnt, HLI.out]
            show (k : Int) + 1 = ((k + 1 : Nat) : Int)
            omega
          have hEE : (.iface 80 pv : Value) = errV (openE t : Nat) := by
            unfold openE
            rw [if_neg hnt, HLI.out]
            exact HEV.out.symm
          have hBB : openB t = none := by
            unfold openB
            rw [if_neg hnt, HLI.out, if_neg (by exact hE)]
          have HX : Hid (OpenX t w z .ret (((w5.setCell ⟨z, 0, none⟩ (.pointer none)).setCell ⟨z + 1, 0, none⟩ (.int .i64 ((k : Int) + 1))).setCell ⟨z + 2, 0, none⟩ (.iface 80 pv)).drew) := Lib.hid (by
            rw [hNN, hEE]
            exact .inr ⟨rfl, hBB, _, _, (((HO5.out.set2 _).set3 _).set4 _).drew⟩)
          have HKK : Hid (KeepsOthers W (((w5.setCell ⟨z, 0, none⟩ (.pointer none)).setCell ⟨z + 1, 0, none⟩ (.int .i64 ((k : Int) + 1))).setCell ⟨z + 2, 0, none⟩ (.iface 80 pv)).drew) :=
            Lib.hid ((((HKO.out.trans (KeepsOthers.setCell _ _ _)).trans (KeepsOthers.setCell _ _ _)).trans (KeepsOthers.setCell _ _ _)).trans (KeepsOthers.drew _))
          clear hNN hEE hBB
          gi_wp2
          gi_region
          all_goals gi_wp2
          all_goals exact ⟨HKK.out, HX.out⟩
      · obtain rfl : k = (wholeLines t).length := by omega
        obtain ⟨hr1, hr2⟩ := cutLines_rest t hk
        obtain ⟨q, hqd, hlv⟩ : ∃ q : ByteArray, q.data.toList = tailLine t ∧ lineV t (wholeLines t).length = .string q := ⟨⟨(tailLine t).toArray⟩, rfl, by
          unfold lineV
          rw [hr1]⟩
        rw [hlv]
        have hq : q.size ≤ 9223372036854775807 := by
          have h1 : q.data.toList.length = q.size := rfl
          have h2 := congrArg List.length (cutLines_flat t)
          rw [hqd] at h1
          have h3 : (tailLine t).length ≤ t.length := by
            have h4 := (cutLines_whole t).1
            rw [h4, List.flatten_append, List.length_append] at h2
            by_cases h0 : tailLine t = []
            · rw [h0]; simp
            · have h5 : ([tailLine t] : List (List UInt8)).flatten = tailLine t := by simp
              rw [if_neg h0, h5] at h2
              omega
          omega
        have HQ := Lib.hid hq
        have HQD := Lib.hid hqd
        clear hlv hq hqd hr1 hr2
        gi_wp2
        refine ⟨trivial, ?_⟩
        gi_at_call 58
        refine (CallsIn.inRound l (callsIn_wide.2 (Tryz.strings_CutSuffix q ⟨#[10]⟩ W HQ.out))).mono ?_
        rintro e w3 ⟨rfl, hw3⟩
        obtain rfl := hw3.symm
        have e2 : Lib.hasSuffix q.data.toList (⟨#[10]⟩ : ByteArray).data.toList = false := by
          rw [HQD.out]
          exact (suffix_no (cutLines_whole t).2.2).1
        rw [e2]
        clear e2
        gi_wp2
        exact ⟨KeepsOthers.refl _, .inl ⟨rfl, ⟨hle, b, HO.out, HOK.out, HLN.out⟩⟩⟩
    case done =>
      rintro D W hD hi hK
      obtain ⟨b, hO, hok, hLn⟩ := hi.is
      have hNl : (cutLines t).length = (wholeLines t).length := Nat.le_antisymm hi.le (cutLines_len t)
      rw [hNl] at hO hLn
      have HO := Lib.hid hO
      have HOK := Lib.hid hok
      have HLN := Lib.hid hLn
      have HK := Lib.hid hK
      clear hO hok hLn hi hK
      gi_wp2
      have hlines : Bk.new.lines (wholeLines t) = (b, 0, (wholeLines t).length) := by
        have h := HLN.out
        rwa [List.take_length] at h
      have HLI := Lib.hid hlines
      have hb5 := HO.out.drew.bb.cell
      have hb6 := HO.out.drew.ff.cell
      have hB3 : B ≤ z + 3 := by have := HZ.out; omega
      have HEV := Lib.hid (HE.out.on (HO.out.drew.below.mono (show B ≤ z by have := HZ.out; omega)))
      clear hlines
      gi_region_with (refine ⟨trivial, ?_⟩; gi_at_call 60; refine (callsIn_wide.2 (whole_walk W.drew B (z + 3) b HO.out.drew.book hB3 HEV.out HOK.out)).mono ?_; rintro e w6 ⟨g6, rfl, hbk6, hg6, hbl6, hfr6⟩; have hk6 := fun (x : Nat) (hx : x = z ∨ x = z + 1 ∨ x = z + 2 ∨ x = z + 4 ∨ x = z + 5 ∨ x = z + 6) => hfr6 x (HO.out.drew.far x hx).1 (HO.out.drew.far x hx).2; have hO6 : OpenRest w W.drew w6 z b (wholeLines t).length (.pointer none) (.int .i64 0) .nilIface := ⟨(hk6 _ (by simp)).trans HO.out.drew.r2, (hk6 _ (by simp)).trans HO.out.drew.r3, (hk6 _ (by simp)).trans HO.out.drew.r4, (hk6 _ (by simp)).trans HO.out.drew.ff⟩; have d2 := hO6.r2.cell; have e2 := hO6.r2.frozen; have d3 := hO6.r3.cell; have e3 := hO6.r3.frozen; have d4 := hO6.r4.cell; have e4 := hO6.r4.frozen; have d6 := hO6.ff.cell; have HBK6 := Lib.hid hbk6; have HG6 := Lib.hid hg6; have HBL6 := Lib.hid hbl6; have HFR6 := Lib.hid hfr6; have HO6 := Lib.hid hO6; clear hbk6 hg6 hbl6 hfr6 hO6 hk6)
      all_goals gi_wp2
      all_goals
        have hen := open_end HO.out (show z + 7 ≤ D by omega) HK.out HBK6.out HG6.out HBL6.out HFR6.out (.pointer (some ⟨g6, 0, none⟩)) (.int .i64 ((wholeLines t).length : Nat)) .nilIface _ rfl
        obtain ⟨q1, q2, q3, q4, q5, q6⟩ := hen
        refine ⟨by simp, .inl ⟨_, _, rfl, run_takeDeferred q1, ?_⟩⟩
        refine ⟨_, results_cells3 rfl rfl rfl rfl (load_ptr q2) (load_int q3) (load_err q4), ?_, ?_⟩
        · have hnt : ¬ 2000 < t.length := by have := HSZ.out; omega
          refine ⟨some ⟨g6, 0, none⟩, ?_, ?_⟩
          · unfold openN openE
            rw [if_neg hnt, if_neg hnt, HLI.out]
            rfl
          · unfold openB
            rw [if_neg hnt, HLI.out, if_pos rfl]
            refine ⟨g6, rfl, ?_, q5⟩
            have h1 := HG6.out
            have h2 := HO.out.drew.r4.lt
            have h3 := HZ.out
            omega
        · rw [HZ.out]
          exact q6
    case stop =>
      rintro D cd W hD hx hK
      have HK := Lib.hid hK
      clear hK
      rcases hx with ⟨rfl, hi⟩ | ⟨rfl, hob, b, k, hO⟩
      · obtain ⟨b, hO, hok, hLn⟩ := hi.is
        have HO := Lib.hid hO
        have HOK := Lib.hid hok
        have HLN := Lib.hid hLn
        clear hO hok hLn hi
        gi_wp2
        have hlines : Bk.new.lines (wholeLines t) = (b, 0, (wholeLines t).length) := by
          have h := HLN.out
          rwa [List.take_length] at h
        have HLI := Lib.hid hlines
        have hb5 := HO.out.drew.bb.cell
        have hb6 := HO.out.drew.ff.cell
        have hB3 : B ≤ z + 3 := by have := HZ.out; omega
        have HEV := Lib.hid (HE.out.on (HO.out.drew.below.mono (show B ≤ z by have := HZ.out; omega)))
        clear hlines
        gi_region_with (refine ⟨trivial, ?_⟩; gi_at_call 60; refine (callsIn_wide.2 (whole_walk W.drew B (z + 3) b HO.out.drew.book hB3 HEV.out HOK.out)).mono ?_; rintro e w6 ⟨g6, rfl, hbk6, hg6, hbl6, hfr6⟩; have hk6 := fun (x : Nat) (hx : x = z ∨ x = z + 1 ∨ x = z + 2 ∨ x = z + 4 ∨ x = z + 5 ∨ x = z + 6) => hfr6 x (HO.out.drew.far x hx).1 (HO.out.drew.far x hx).2; have hO6 : OpenRest w W.drew w6 z b (wholeLines t).length (.pointer none) (.int .i64 0) .nilIface := ⟨(hk6 _ (by simp)).trans HO.out.drew.r2, (hk6 _ (by simp)).trans HO.out.drew.r3, (hk6 _ (by simp)).trans HO.out.drew.r4, (hk6 _ (by simp)).trans HO.out.drew.ff⟩; have d2 := hO6.r2.cell; have e2 := hO6.r2.frozen; have d3 := hO6.r3.cell; have e3 := hO6.r3.frozen; have d4 := hO6.r4.cell; have e4 := hO6.r4.frozen; have d6 := hO6.ff.cell; have HBK6 := Lib.hid hbk6; have HG6 := Lib.hid hg6; have HBL6 := Lib.hid hbl6; have HFR6 := Lib.hid hfr6; have HO6 := Lib.hid hO6; clear hbk6 hg6 hbl6 hfr6 hO6 hk6)
        all_goals gi_wp2
        all_goals
          have hen := open_end HO.out (show z + 7 ≤ D by omega) HK.out HBK6.out HG6.out HBL6.out HFR6.out (.pointer (some ⟨g6, 0, none⟩)) (.int .i64 ((wholeLines t).length : Nat)) .nilIface _ rfl
          obtain ⟨q1, q2, q3, q4, q5, q6⟩ := hen
          refine ⟨by simp, .inl ⟨_, _, rfl, run_takeDeferred q1, ?_⟩⟩
          refine ⟨_, results_cells3 rfl rfl rfl rfl (load_ptr q2) (load_int q3) (load_err q4), ?_, ?_⟩
          · have hnt : ¬ 2000 < t.length := by have := HSZ.out; omega
            refine ⟨some ⟨g6, 0, none⟩, ?_, ?_⟩
            · unfold openN openE
              rw [if_neg hnt, if_neg hnt, HLI.out]
              rfl
            · unfold openB
              rw [if_neg hnt, HLI.out, if_pos rfl]
              refine ⟨g6, rfl, ?_, q5⟩
              have h1 := HG6.out
              have h2 := HO.out.drew.r4.lt
              have h3 := HZ.out
              omega
          · rw [HZ.out]
            exact q6
      · have HO := Lib.hid hO
        have HOB := Lib.hid hob
        clear hO hob
        gi_wp2
        refine ⟨by simp, .inl ⟨_, _, rfl, run_takeDeferred HK.out, ?_⟩⟩
        have hO6 := (OpenAt.grown (B := z + 7) HO.out (by omega) (grownBy_putObj' W D (.deferred none)) (fun r e => by cases e; exact ⟨by omega, _, HK.out, rfl⟩))
        refine ⟨_, results_cells3 rfl rfl rfl rfl (load_ptr hO6.r2) (load_int hO6.r3) (load_err hO6.r4), ?_, ?_⟩
        · refine ⟨none, rfl, ?_⟩
          rw [HOB.out]
        · rw [HZ.out]
          exact hO6.below

end Go.Proofs.YtegibgflhhdddaaGreatDoor
