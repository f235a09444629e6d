/- Run. -/
import Derived.Test.YtegibgflhhdddaaGreatDoorRun1
namespace Go.Proofs.YtegibgflhhdddaaGreatDoor
open Go.RowKit Go.Shelf
attribute [local go_sem] Oper.semAt_some

theorem run_start (t : List UInt8) (w w1 : World) (z : Nat) (s : ByteArray) (hz : w.heap.size = z) (hbk : BookIs w1 z Bk.new) (hz1 : w1.heap.size = z + 1) (hb : Below z w w1) :
    RunI t w z 0 (((w1.alloc (.cells #[.pointer (some ⟨z, 0, none⟩)] 27)).alloc (.cells #[.pointer none, .slice none 0 0] 31)).alloc (.cells #[.string s] 9)) := by
  have s2 : (w1.alloc (.cells #[.pointer (some ⟨z, 0, none⟩)] 27)).heap.size = z + 2 := by simp [hz1]
  have s3 : ((w1.alloc (.cells #[.pointer (some ⟨z, 0, none⟩)] 27)).alloc (.cells #[.pointer none, .slice none 0 0] 31)).heap.size = z + 3 := by simp [hz1]
  obtain ⟨W, hW⟩ : ∃ W, W = ((w1.alloc (.cells #[.pointer (some ⟨z, 0, none⟩)] 27)).alloc (.cells #[.pointer none, .slice none 0 0] 31)).alloc (.cells #[.string s] 9) := ⟨_, rfl⟩
  have s4 : W.heap.size = z + 4 := by rw [hW]; simp [hz1]
  have h1 : W.heap[z + 1]? = some (.cells #[.pointer (some ⟨z, 0, none⟩)] 27 (0, 0)) := by
    rw [hW]
    exact (alloc_old (by omega)).trans ((alloc_old (by omega)).trans (alloc_at hz1))
  have h2 : W.heap[z + 2]? = some (.cells #[.pointer none, .slice none 0 0] 31 (0, 0)) := by
    rw [hW]
    exact (alloc_old (by omega)).trans (alloc_at s2)
  have h3 : W.heap[z + 3]? = some (.cells #[.string s] 9 (0, 0)) := by rw [hW]; exact alloc_at s3
  have hbl : Below (z + 1) w1 W := by
    rw [hW]
    exact (((Below.refl _ w1).alloc (by omega) _).alloc (by simp; omega) _).alloc (by simp; omega) _
  rw [← hW]
  have hc : ∀ o v, (#[Value.pointer none, Value.slice none 0 0] : Array Value)[o]? = some v → W.cell? ⟨z + 2, o, none⟩ = some v := fun o v hv => by
    unfold World.cell?
    simp only
    rw [h2]
    exact hv
  have hbld : Bld W 31 2 (z + 4) (z + 2) 0 [] := by
    refine ⟨⟨by omega, by omega⟩, ⟨none, hc 0 _ rfl, .inl rfl⟩, ⟨.slice none 0 0, hc 1 _ rfl, ⟨rfl, .inl ⟨rfl, rfl⟩⟩⟩, fun o => ?_, ?_, by kernel_rfl, by decide⟩
    · unfold World.frozen?
      simp only
      rw [h2]
      simp
    · simp [World.shape?, h2]
  have hbr : bldRow W (z + 2) 0 = none := by
    unfold bldRow
    rw [hc 1 _ rfl]
    rfl
  have hfar : ∀ x, BkOwn W z x → bldRow W (z + 2) 0 ≠ some x := fun x _ e => by
    rw [hbr] at e
    cases e
  exact ⟨Nat.zero_le _, z, ⟨⟨h1, hbk.later (by rw [hz1]; exact hbl)⟩, Nat.le_refl _, hbld, ⟨_, h3⟩, hfar, hb.trans (hbl.mono (by omega))⟩⟩

theorem trim_line {l c : List UInt8} (h : c = l ++ [10] ∨ c = l) (hl : (10 : UInt8) ∉ l) : Lib.trimSuffix c [10] = l := by
  rcases h with rfl | rfl
  · exact (suffix_yes l 10).2
  · exact (suffix_no hl).2

theorem deskLines_short (t : List UInt8) {l : List UInt8} (h : l ∈ deskLines t) : l.length ≤ t.length := by
  unfold deskLines at h
  rcases List.mem_append.1 h with h | h
  · exact wholeLines_short t l h
  · split at h
    · cases h
    · rw [List.mem_singleton.1 h]
      unfold tailLine
      have h1 := cutAt_ne 10 t
      have h2 : (cutAt 10 t).getLastD [] ∈ cutAt 10 t := by
        rw [List.getLastD_eq_getLast?, List.getLast?_eq_some_getLast h1]
        exact List.getLast_mem h1
      exact cutAt_len h2

theorem ansT_len (b : Bk) (hok : b.ok) (q : Req) : (b.ansT q).length ≤ 100 := by
  have hd : ∀ n, n ≤ 1000000 → (Lib.decDigits n).length ≤ 20 := fun n hn => by rw [Lib.decDigits_length]; exact Lib.nDigits_le20 n (by omega)
  have ht : ∀ e, (tell e).length ≤ 9 := fun e => by unfold tell; split <;> decide
  cases q with
  | write p v => exact Nat.le_trans (ht _) (by decide)
  | dos =>
    show (if b.doneE = 0 then _ else _ : List UInt8).length ≤ 100
    split
    · have h1 : b.doneN ≤ 60 := by unfold Bk.doneN; split; omega; exact Nat.le_trans hok.waits hok.many
      have := hd b.doneN (by omega)
      simp only [List.length_append, List.length_cons, List.length_nil]
      omega
    · exact Nat.le_trans (ht _) (by decide)
  | read p =>
    show (if 8 ≤ p then _ else _ : List UInt8).length ≤ 100
    split
    · exact Nat.le_trans (ht _) (by decide)
    · rename_i h8
      have h1 : b.B.getD p 0 ≤ 1000 := by
        rw [List.getD_eq_getElem?_getD]
        cases hp : b.B[p]? with
        | none => simp
        | some n => exact hok.vals n (List.mem_of_getElem? hp)
      have := hd (b.B.getD p 0) (by omega)
      omega
  | waits =>
    have := hd b.G.length (by have := hok.waits; have := hok.many; omega)
    exact Nat.le_trans this (by decide)
  | crash n =>
    show ([102, 111, 117, 110, 100, 32] ++ Lib.decDigits (openN (b.text.take n))).length ≤ 100
    have h1 : openN (b.text.take n) ≤ 1000000 := by
      unfold openN
      split
      · omega
      · have h2 : ∀ (L : List (List UInt8)) (c : Bk), (c.lines L).2.2 ≤ L.length := by
          intro L
          induction L with
          | nil => intro c; exact Nat.le_refl _
          | cons l L ih =>
            intro c
            unfold Bk.lines
            split
            · have := ih (c.cmd (parse l))
              simp only [List.length_cons]
              omega
            · simp
        have h3 := h2 (wholeLines (b.text.take n)) Bk.new
        have h4 := wholeLines_many (b.text.take n)
        have h5 := Bk.text_small hok
        rw [List.length_take] at h4
        omega
    have := hd _ h1
    simp only [List.length_append, List.length_cons, List.length_nil]
    omega
  | bad => show ([98, 97, 100] : List UInt8).length ≤ 100; decide
theorem sessT_len (L : List (List UInt8)) : ∀ b : Bk, Reach b → (sessT b L).length ≤ L.length * 101 := by
  induction L with
  | nil => intro b _; exact Nat.zero_le _
  | cons l L ih =>
    intro b hb
    have h1 := ih _ (hb.ans (req l))
    have h2 := ansT_len b hb.good.1 (req l)
    unfold sessT
    simp only [List.length_append, List.length_cons]
    omega

set_option maxRecDepth 100000 in
set_option maxHeartbeats 2000000 in
theorem run_walk (t : List UInt8) (w : World) (B : Nat) (hB : B ≤ w.heap.size) (he : Env B w) (hh : Hand B w) (ht : t.length ≤ 140737488355328) :
    Calls Tryz.prog 4 #[.string ⟨t.toArray⟩] w fun e w' => e = .returned (.string ⟨(runT t).toArray⟩) ∧ Below w.heap.size w w' := by
  refine (callsIn_wide (n := 3)).1 ?_
  refine callsIn_of_wp_marks Tryz.func4 rfl trivial ?_ rfl
  simp only [Tryz.ntmps4, List.size_toArray, List.length_cons, List.length_nil, Nat.reduceAdd, Nat.reduceSub, Array.replicate_succ, Array.replicate_zero, List.push_toArray, List.append_toArray, List.nil_append, List.cons_append]
  obtain ⟨s, hs⟩ : ∃ s : ByteArray, s = ⟨t.toArray⟩ := ⟨_, rfl⟩
  have hsz : s.size = t.length := by rw [hs]; exact List.size_toArray
  rw [← hs]
  have HE := Lib.hid he
  have HH := Lib.hid hh
  have HS := Lib.hid hs
  have HSZ := Lib.hid hsz
  have hlim : s.size ≤ 140737488355328 := by omega
  clear he hh hs hsz
  by_cases hbig : (3000 : Int) < (s.size : Int)
  · gi_wp2
    refine ⟨_, results_tmp rfl _ _ _, ?_, Below.refl _ _⟩
    have hnt : 3000 < t.length := by have := HSZ.out; omega
    unfold runT
    rw [if_pos hnt]
    rfl
  · obtain ⟨z, hz⟩ : ∃ z, w.heap.size = z := ⟨_, rfl⟩
    have ht' : t.length ≤ 1000000 := by have := HSZ.out; omega
    gi_wp2
    refine ⟨trivial, ?_⟩
    gi_at_call 6
    refine (callsIn_wide.2 (new_walk' _)).mono ?_
    rintro _ w1 ⟨rfl, hbk1, hb1, hz1⟩
    simp only [hz] at hbk1 hb1 hz1 ⊢
    have HBK1 := Lib.hid hbk1
    have HB1 := Lib.hid hb1
    have HZ1 := Lib.hid hz1
    have HZ := Lib.hid hz
    clear hbk1 hb1 hz1 hz
    gi_wp2
    refine ⟨trivial, ?_⟩
    gi_at_call 7
    refine (callsIn_wide.2 (lines_fn _ s)).mono ?_
    rintro _ w2 ⟨rfl, hw2⟩
    simp only [World.size_alloc, HZ1.out, HZ.out, Nat.add_assoc, Nat.reduceAdd] at hw2 ⊢
    have HW2 := Lib.hid hw2
    clear hw2
    gi_wp2
    have hbox : w2.heap[z + 3]? = some (.cells #[restV t 0] 9 (0, 0)) := by
      have e : restV t 0 = .string s := by
        unfold restV
        rw [List.drop_zero, cutLines_flat, HS.out]
      rw [e, HW2.out]
      have hsz : ((w1.alloc (.cells #[.pointer (some ⟨z, 0, none⟩)] 27)).alloc (.cells #[.pointer none, .slice none 0 0] 31)).heap.size = z + 3 := by simp [HZ1.out]
      have h := heap_alloc_new ((w1.alloc (.cells #[.pointer (some ⟨z, 0, none⟩)] 27)).alloc (.cells #[.pointer none, .slice none 0 0] 31)) (.cells #[.string s] 9 (0, 0))
      rw [hsz] at h
      exact h
    have h0 : RunI t w z 0 w2 := by rw [HW2.out]; exact run_start t w w1 z s HZ.out HBK1.out HZ1.out HB1.out
    have HI := Lib.hid h0
    have hz2 : w2.heap.size = z + 4 := by rw [HW2.out]; simp [HZ1.out]
    have HB : Hid (B ≤ z) := Lib.hid (by have := HZ.out; omega)
    clear h0 hB
    refine wpIn_range_box (F := Fence.wide) rfl (by decide) (gf := 15) (lb := #[.pointer (some ⟨z + 3, 0, none⟩)]) rfl trivial (enters_of Tryz.func15 (by kernel_rfl) rfl)
      (lines_seq 2 (z + 3) (by decide) t ht') hbox rfl (fun k W => RunI t w z k W) (fun _ _ => False) (fun _ _ h => h.drew) (fun _ _ v h => h.boxed v) (RunI.from t w z _ (by omega)) (fun _ _ _ _ _ h _ _ => h) HI.out
      (fun k => { tmps := #[.string s, undef, .string ⟨#[]⟩, .pointer (some ⟨z + 1, 0, none⟩), .pointer (some ⟨z + 2, 0, none⟩), lineV t k, .string s, .int .i64 s.size, .bool false, .pointer (some ⟨z, 0, none⟩),
          .agg #[.pointer (some ⟨z, 0, none⟩)], .string s, .func (.func 15) #[] #[.pointer (some ⟨z + 3, 0, none⟩)], lineV t k, undef, undef, undef, undef, undef, undef], defers := [] }) ?assign ?body ?done ?stop
    case assign =>
      intro l k W K hK
      gi_wp2
      exact hK
    case body =>
      rintro l k W hi hk
      obtain ⟨g, hR⟩ := hi.is
      have hkd : k < (deskLines t).length := by rw [deskLines_len]; exact hk
      obtain ⟨ln, hln⟩ : ∃ ln, (deskLines t)[k]? = some ln := ⟨_, List.getElem?_eq_getElem hkd⟩
      obtain ⟨q, hqd, hlv⟩ : ∃ q : ByteArray, q.data.toList = (cutLines t).getD k [] ∧ lineV t k = .string q := ⟨⟨((cutLines t).getD k []).toArray⟩, rfl, rfl⟩
      have htrim := trim_line (cutLines_desk t hln) (deskLines_feed t ln (List.mem_of_getElem? hln))
      rw [← hqd] at htrim
      have hlt := deskLines_short t (List.mem_of_getElem? hln)
      have hql : q.size ≤ 4000 := by
        have h1 : q.data.toList.length = q.size := rfl
        rw [hqd] at h1
        rcases cutLines_desk t hln with h | h <;> rw [h] at h1
        · simp at h1; have := HSZ.out; omega
        · have := HSZ.out; omega
      obtain ⟨y, hyd⟩ : ∃ y : ByteArray, y = ⟨ln.toArray⟩ := ⟨_, rfl⟩
      have hysz : y.size ≤ 5000 := by
        have : y.size = ln.length := by rw [hyd]; exact List.size_toArray
        have := HSZ.out
        omega
      have hyl : y.data.toList = ln := by rw [hyd]
      rw [hlv]
      have HR := Lib.hid hR
      have HRE := Lib.hid (Reach.new.sess ((deskLines t).take k))
      obtain ⟨b, hb⟩ : ∃ b, b = sessB Bk.new ((deskLines t).take k) := ⟨_, rfl⟩
      obtain ⟨out, hout⟩ : ∃ o, o = sessT Bk.new ((deskLines t).take k) := ⟨_, rfl⟩
      have hol : out.length ≤ 3001 * 101 := by
        have h1 := sessT_len ((deskLines t).take k) Bk.new Reach.new
        rw [← hout] at h1
        have h2 := wholeLines_many t
        have h3 : (deskLines t).length ≤ (wholeLines t).length + 1 := by unfold deskLines; rw [List.length_append]; split <;> simp
        have h4 := HSZ.out
        have h5 : ((deskLines t).take k).length ≤ 3001 := by rw [List.length_take]; omega
        have h6 := Nat.mul_le_mul_right 101 h5
        omega
      rw [← hb, ← hout] at HR
      rw [← hb] at HRE
      have HBB := Lib.hid hb
      have HOO := Lib.hid hout
      have HTR := Lib.hid htrim
      have HYD := Lib.hid hyd
      have HYL := Lib.hid hyl
      have HLN := Lib.hid hln
      clear hR hlv htrim hqd hln hyd hyl hb hout hi
      gi_wp2
      refine ⟨trivial, ?_⟩
      gi_at_call 10
      refine (CallsIn.inRound l (callsIn_wide.2 (Tryz.strings_TrimSuffix q ⟨#[10]⟩ W (by omega)))).mono ?_
      rintro e w3 ⟨rfl, hw3⟩
      obtain rfl := hw3.symm
      have e1 : (⟨(Lib.trimSuffix q.data.toList (⟨#[10]⟩ : ByteArray).data.toList).toArray⟩ : ByteArray) = y := by
        rw [HYD.out]
        exact congrArg (fun l : List UInt8 => (⟨l.toArray⟩ : ByteArray)) HTR.out
      rw [e1]
      clear e1
      gi_wp2
      refine ⟨trivial, ?_⟩
      gi_at_call 9
      refine (CallsIn.inRound l (callsIn_wide.2 (dline_walk W B (z + 1) g b y HR.out.desk (by have := HB.out; have := HR.out.lo; omega) (by have := HB.out; omega) (HE.out.on (HR.out.below.mono HB.out)) (HH.out.on (HR.out.below.mono HB.out)) HRE.out hysz))).mono ?_
      rintro _ w4 ⟨rfl, g', hd4, hf4⟩
      rw [HYL.out] at hd4 ⊢
      have HA4 := Lib.hid (HR.out.lined hd4 hf4)
      obtain ⟨a, ha⟩ := named (b.ansT (req ln))
      have hal : a.size ≤ 100 := by
        have h1 : a.size = (b.ansT (req ln)).length := by rw [ha]; exact List.size_toArray
        have := ansT_len b HRE.out.good.1 (req ln)
        omega
      have hadl : a.data.toList.length = a.size := rfl
      rw [← ha]
      have HAA := Lib.hid ha
      clear hd4 hf4 ha
      gi_wp2
      refine ⟨trivial, ?_⟩
      gi_at_call 8
      refine (CallsIn.inRound l (callsIn_wide.2 (bld_write w4 _ _ _ _ _ _ a HA4.out.1.bld (by omega)))).mono ?_
      rintro _ w5 ⟨rfl, hb5, hf5⟩
      have HA5 := Lib.hid (HA4.out.1.wrote hb5 hf5)
      clear hb5 hf5
      gi_wp2
      refine ⟨trivial, ?_⟩
      gi_at_call 11
      refine (CallsIn.inRound l (callsIn_wide.2 (bld_byte w5 _ _ _ _ _ _ 10 HA5.out.1.bld (by rw [List.length_append]; omega)))).mono ?_
      rintro _ w6 ⟨rfl, hb6, hf6⟩
      have HA6 := Lib.hid (HA5.out.1.wrote hb6 hf6)
      clear hb6 hf6
      gi_wp2
      refine ⟨(HA4.out.2.1.trans HA5.out.2.1).trans HA6.out.2.1, HA6.out.2.2.trans (HA5.out.2.2.trans HA4.out.2.2), hkd, g', ?_⟩
      have h1 : (deskLines t).take (k + 1) = (deskLines t).take k ++ [ln] := by
        have h1 := List.getElem?_eq_some_iff.1 HLN.out
        rw [List.take_succ_eq_append_getElem h1.1, h1.2]
      have h2 : a.data.toList = b.ansT (req ln) := by rw [HAA.out]
      rw [h1, sessB_append, sessT_snoc, ← HBB.out, ← HOO.out]
      have h3 := HA6.out.1
      rw [h2, List.append_assoc] at h3
      exact h3
    case done =>
      rintro D W hD hi hK
      obtain ⟨g, hR⟩ := hi.is
      rw [← deskLines_len, List.take_length] at hR
      obtain ⟨out6, hout6⟩ : ∃ o, o = sessT Bk.new (deskLines t) := ⟨_, rfl⟩
      rw [← hout6] at hR
      have HO := Lib.hid hout6
      clear hout6
      have HR := Lib.hid hR
      have HK := Lib.hid hK
      clear hR hi hK
      gi_wp2
      refine ⟨trivial, ?_⟩
      gi_at_call 12
      refine (callsIn_wide.2 (bld_str W _ _ _ _ _ _ HR.out.bld)).mono ?_
      rintro _ w6 ⟨rfl, hb6, hf6⟩
      have HA6 := Lib.hid (HR.out.wrote hb6 hf6)
      clear hb6 hf6
      have hD6 := HA6.out.2.1.same _ _ HK.out rfl
      have HO6 : Hid (out6 = runT t) := Lib.hid (by
        have hnt : ¬ 3000 < t.length := by have := HSZ.out; omega
        rw [HO.out]
        unfold runT
        rw [if_neg hnt])
      gi_wp2
      refine ⟨by simp, .inl ⟨_, _, rfl, run_takeDeferred hD6, ?_⟩⟩
      refine ⟨_, results_tmp rfl _ _ _, ?_, ?_⟩
      · rw [HO6.out]
        rfl
      · rw [HZ.out]
        exact HA6.out.1.below.trans ((Below.refl z w6).grown (grownBy_putObj' w6 D _) (by have := HA6.out.1.bld.lo; omega) (fun r e => by cases e; omega))
    case stop =>
      rintro D cd W hD hx hK
      exact hx.elim

end Go.Proofs.YtegibgflhhdddaaGreatDoor
