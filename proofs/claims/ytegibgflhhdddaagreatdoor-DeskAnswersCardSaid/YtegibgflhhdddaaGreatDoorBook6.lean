/- The book reads a line. -/
import Derived.Test.YtegibgflhhdddaaGreatDoorBook5
import Derived.Test.YtegibgflhhdddaaGreatDoorBookCut
import Derived.Test.YtegibgflhhdddaaGreatDoorReadStrs
namespace Go.Proofs.YtegibgflhhdddaaGreatDoor
open Go.RowKit

theorem infoInt6 : (Tryz.prog.info? 3).map (fun i => (i.zero, i.size, i.bytes)) = some (some (.int .i64 0), 1, 8) := by kernel_rfl

theorem split_words (s : ByteArray) : (Lib.splitB ⟨#[32]⟩ 0 (Lib.countB s ⟨#[32]⟩) s).map (·.data.toList) = cutAt 32 s.data.toList := by
  rw [Lib.splitB_data]
  have h1 : (⟨#[32]⟩ : ByteArray).data.toList = [32] := rfl
  rw [h1]
  refine splitK_cut 32 _ _ ?_
  have := Lib.count_one 32 s.data.toList
  unfold Lib.countB
  rw [h1, this]

theorem split_len (s : ByteArray) : (Lib.splitB ⟨#[32]⟩ 0 (Lib.countB s ⟨#[32]⟩) s).length = Lib.countB s ⟨#[32]⟩ + 1 :=
  Lib.splitB_all _ (by decide) 0 _ s rfl

def natsB (l : List Nat) : List Int := l.map fun (n : Nat) => (n : Int)

/-- Split at a blank: a slice of the words -/
theorem split_walk (s : ByteArray) (w : World) (B : Nat) (he : Env B w) (hs : s.size ≤ 1000000) :
    Calls Tryz.prog 23 #[.string s, .string ⟨#[32]⟩] w fun e w' => (∃ r L, e = .returned (.slice (some ⟨r, 0, none⟩) (L.length) L.length) ∧ HasStrs w' (.slice (some ⟨r, 0, none⟩) L.length L.length) L ∧ L.map (·.data.toList) = cutAt 32 s.data.toList ∧ L.length ≤ s.size + 1) ∧ Below w.heap.size w w' := by
  obtain ⟨m, hm⟩ := he.here.max
  refine (Tryz.strings_Split s ⟨#[32]⟩ m w (by omega) hm (by decide)).mono ?_
  rintro e w' ⟨rfl, rfl⟩
  have hl := split_len s
  have hc : Lib.countB s ⟨#[32]⟩ ≤ s.size := Lib.countB_le ⟨#[32]⟩ (by decide) _ s (Nat.le_refl _)
  refine ⟨⟨w.heap.size, Lib.splitB ⟨#[32]⟩ 0 (Lib.countB s ⟨#[32]⟩) s, by rw [hl], ?_, split_words s, by omega⟩, (Below.refl _ _).alloc (Nat.le_refl _) _⟩
  refine ⟨_, _, rfl, Nat.le_refl _, by unfold maxLen; omega, fun _ => ⟨w.heap.size, 0, rfl, by simp, fun j x hj => ?_⟩⟩
  unfold World.cell?
  simp only [Nat.zero_add]
  rw [heap_alloc_new]
  simp [hj]

theorem nums_take {L : List (List UInt8)} {N : List Nat} (h : nums L = some N) : N.length = L.length := by
  induction L generalizing N with
  | nil => simp [nums] at h; subst h; rfl
  | cons s r ih =>
    unfold nums at h
    split at h
    · cases h
    · obtain ⟨M, hM, rfl⟩ := Option.map_eq_some_iff.1 h
      rw [List.length_cons, List.length_cons, ih hM]
theorem nums_snoc {L : List (List UInt8)} {s : List UInt8} : nums (L ++ [s]) = match nums L with
    | none => none
    | some N => (numOf s).map (fun n => N ++ [n]) := by
  induction L with
  | nil =>
    simp only [List.nil_append, nums]
    cases numOf s <;> rfl
  | cons x r ih =>
    simp only [List.cons_append, nums, ih]
    cases numOf x with
    | none => rfl
    | some n =>
      cases nums r with
      | none => rfl
      | some N => cases numOf s <;> rfl
theorem nums_prefix {L M : List (List UInt8)} (h : nums L = none) : nums (L ++ M) = none := by
  induction L with
  | nil => cases h
  | cons x r ih =>
    simp only [List.cons_append, nums] at h ⊢
    cases hx : numOf x with
    | none => rfl
    | some n =>
      rw [hx] at h
      have : nums r = none := by cases hr : nums r with
        | none => rfl
        | some N => rw [hr] at h; cases h
      rw [ih this]
      rfl

theorem ext_tail {s : ByteArray} {wd nm : List UInt8} (h : s.data.toList = wd ++ 32 :: nm) : (s.extract (wd.length + 1) s.size).data.toList = nm := by
  have h1 : s.size = wd.length + 1 + nm.length := by
    have : s.data.toList.length = s.size := rfl
    rw [h] at this
    simp at this
    omega
  rw [ByteArray.data_extract, Array.toList_extract, h, h1]
  simp [List.extract]
theorem ext_head {s : ByteArray} {wd nm : List UInt8} (h : s.data.toList = wd ++ 32 :: nm) : (s.extract 0 wd.length).data.toList = wd := by
  rw [ByteArray.data_extract, Array.toList_extract, h]
  simp [List.extract]

theorem parse_num {l wd nm : List UInt8} (h : lastCut 32 l = some (wd, nm)) (hn : numOf nm = none) : parse l = .bad 2 := by
  simp only [parse, h, hn]
theorem parse_clash {l wd nm : List UInt8} {n : Nat} (h : lastCut 32 l = some (wd, nm)) (hn : numOf nm = some n) (hc : n ≠ wsum wd) : parse l = .bad 6 := by
  simp only [parse, h, hn, if_neg hc]
theorem parse_nums {l wd nm x : List UInt8} {t : List (List UInt8)} (h : lastCut 32 l = some (wd, nm)) (hn : numOf nm = some (wsum wd)) (ht : cutAt 32 wd = x :: t) (hx : nums t = none) : parse l = .bad 2 := by
  simp only [parse, h, hn, if_true, ht, List.tail_cons, hx]
theorem parse_cmd {l wd nm x : List UInt8} {t : List (List UInt8)} {ns : List Nat} (h : lastCut 32 l = some (wd, nm)) (hn : numOf nm = some (wsum wd)) (ht : cutAt 32 wd = x :: t) (hx : nums t = some ns) : parse l = cmdOf x ns := by
  simp only [parse, h, hn, if_true, ht, List.tail_cons, hx, List.headD_cons]

theorem cutAt_len {c : UInt8} : ∀ {l x : List UInt8}, x ∈ cutAt c l → x.length ≤ l.length := by
  have key : ∀ (n : Nat) (l x : List UInt8), l.length ≤ n → x ∈ cutAt c l → x.length ≤ l.length := by
    intro n
    induction n with
    | zero =>
      intro l x hl hx
      obtain rfl : l = [] := List.length_eq_zero_iff.1 (by omega)
      rw [cutAt_skip (by simp)] at hx
      simp at hx
      simp [hx]
    | succ n ih =>
      intro l x hl hx
      by_cases hc : c ∈ l
      · obtain ⟨a, b, rfl, hca⟩ := first_cut hc
        rw [cutAt_append hca] at hx
        simp only [List.length_append, List.length_cons] at hl ⊢
        rcases List.mem_cons.1 hx with rfl | hx
        · omega
        · have := ih b x (by omega) hx
          omega
      · rw [cutAt_skip hc] at hx
        simp at hx
        simp [hx]
  exact fun {l x} hx => key _ l x (Nat.le_refl _) hx

theorem cmdOf_w {x : ByteArray} {ns : List Nat} {p v : Nat} (hx : x = ⟨#[119]⟩) (h : ns = [p, v]) : cmdOf x.data.toList ns = .w p v := by
  subst hx h; rfl
theorem cmdOf_d {x : ByteArray} {ns : List Nat} (hx : x = ⟨#[100]⟩) (h : ns = []) : cmdOf x.data.toList ns = .d := by
  subst hx h; rfl
theorem str_eq {x y : ByteArray} (h : x.data.toList = y.data.toList) : x = y := by
  cases x; cases y; simp at h; rw [h]
theorem cmdOf_bad {x : ByteArray} {ns : List Nat} (h1 : ¬ (x = ⟨#[119]⟩ ∧ ns.length = 2)) (h2 : ¬ (x = ⟨#[100]⟩ ∧ ns.length = 0)) : cmdOf x.data.toList ns = .bad 2 := by
  unfold cmdOf
  rw [if_neg (fun h => h1 ⟨str_eq h.1, h.2⟩), if_neg (fun h => h2 ⟨str_eq h.1, h.2⟩)]

set_option maxHeartbeats 1000000 in
/-- a line that is none of its form: no blank -/
theorem line_none (w : World) (g : Nat) (s : ByteArray) (hs : s.size ≤ 2000) (hc : lastCut 32 s.data.toList = none) :
    Calls Tryz.prog 59 #[.pointer (some ⟨g, 0, none⟩), .string s] w fun e w' => e = .returned (.iface 80 (.int .i64 2)) ∧ w = w' := by
  have hl := lastByte_none hc
  have HL := Lib.hid hl
  clear hl hc
  go_enter Tryz.func59, Tryz.ntmps59
  go_wp2_with fail
  refine (Tryz.strings_LastIndexByte s 32 (by omega) w).mono ?_
  rintro e w1 ⟨rfl, rfl⟩
  rw [show Lib.lastIndexByte s 32 = -1 from HL.out]
  go_wp2_with fail
  go_ret
  exact ⟨rfl, rfl⟩

set_option maxRecDepth 100000 in
set_option maxHeartbeats 4000000 in
theorem line_some (w : World) (B g : Nat) (b : Bk) (s : ByteArray) (wd nm : List UInt8) (hb : BookIs w g b) (hB : B ≤ g) (he : Env B w) (hok : b.ok) (hs : s.size ≤ 2000) (hc : lastCut 32 s.data.toList = some (wd, nm)) :
    Calls Tryz.prog 59 #[.pointer (some ⟨g, 0, none⟩), .string s] w fun e w' => e = .returned (errV (b.cmdE (parse s.data.toList) : Nat)) ∧ BookIs w' g (b.cmd (parse s.data.toList)) ∧ BkFrame w w' g := by
  have hl := lastByte_some hc
  have HL := Lib.hid hl
  have hcs := (lastCut_some.1 hc).1
  have hsz : s.size = wd.length + 1 + nm.length := by
    have : s.data.toList.length = s.size := rfl
    rw [hcs] at this
    simp at this
    omega
  have HC := Lib.hid hc
  have HB := Lib.hid hb
  have HE := Lib.hid he
  obtain ⟨k, hk⟩ : ∃ k, k = wd.length := ⟨_, rfl⟩
  rw [← hk] at HL hsz
  have HK := Lib.hid hk
  have hk1 : k + 1 ≤ s.size := by omega
  have HCS := Lib.hid hcs
  have HSZ := Lib.hid hsz
  have hgw := hb.lt
  clear hl hc hb he hk hcs hsz
  go_enter Tryz.func59, Tryz.ntmps59
  go_wp2_with fail
  refine (Tryz.strings_LastIndexByte s 32 (by omega) w).mono ?_
  rintro e w1 ⟨rfl, hw1⟩
  obtain rfl := hw1.symm
  rw [show Lib.lastIndexByte s 32 = (k : Int) from HL.out]
  go_wp2_with fail
  refine (number_walk _ w B (by omega) HE.out (by have : (s.extract (k + 1) s.size).size ≤ s.size := by rw [ByteArray.size_extract]; omega
                                                  omega)).mono ?_
  rintro e w2 ⟨⟨n0, ok, rfl, hcase⟩, hb2⟩
  have hdt : (s.extract (k + 1) s.size).data.toList = nm := by rw [HK.out]; exact ext_tail HCS.out
  have hdh : (s.extract 0 k).data.toList = wd := by rw [HK.out]; exact ext_head HCS.out
  rw [hdt] at hcase
  have HDH := Lib.hid hdh
  have HB2 := Lib.hid hb2
  clear hdt hdh hb2
  rcases hcase with ⟨rfl, n1, rfl, hn⟩ | ⟨rfl, hn⟩
  rotate_left
  · have HN := Lib.hid hn
    clear hn
    go_wp2_with fail
    go_ret
    rw [parse_num HC.out HN.out]
    exact ⟨rfl, HB.out.later HB2.out, HB.out.frame HB2.out⟩
  have HN := Lib.hid hn
  clear hn
  have hbnd : (s.extract 0 k).size ≤ 2000 := by rw [ByteArray.size_extract]; omega
  go_wp2_with fail
  refine (sum_walk _ w2 (by omega)).mono ?_
  rintro e w3 ⟨rfl, hb3⟩
  rw [HDH.out]
  have HB3 := Lib.hid (HB2.out.trans (hb3.mono HB2.out.size))
  clear hb3
  by_cases heq : n1 = wsum wd
  rotate_left
  · have q1 : ((n1 : Int) != (wsum wd : Nat)) = true := bne_iff_ne.2 (by omega)
    have HEQ := Lib.hid heq
    clear heq
    go_wp2_with fail
    go_ret
    rw [parse_clash HC.out HN.out HEQ.out]
    exact ⟨rfl, HB.out.later HB3.out, HB.out.frame HB3.out⟩
  subst heq
  have q1 : ((wsum wd : Nat) != ((wsum wd : Nat) : Int)) = false := by simp
  go_wp2_with fail
  refine (split_walk _ w3 B (HE.out.on (HB3.out.mono (by omega))) (by omega)).mono ?_
  rintro e w4 ⟨⟨r, L, rfl, hL, hLd, hLn⟩, hb4⟩
  rw [HDH.out] at hLd
  obtain ⟨x, t, rfl⟩ : ∃ x t, L = x :: t := by
    cases L with
    | nil => exact absurd hLd.symm (cutAt_ne 32 wd)
    | cons x t => exact ⟨x, t, rfl⟩
  obtain ⟨n, hn⟩ : ∃ n, n = t.length := ⟨_, rfl⟩
  rw [List.length_cons, ← hn] at hL hLn
  rw [List.length_cons, ← hn]
  have HT := Lib.hid hn
  have HLL := Lib.hid hL
  have HLD := Lib.hid hLd
  have HB4 := Lib.hid (HB3.out.trans (hb4.mono HB3.out.size))
  have hln : n ≤ 2000 := by omega
  have hI0 : (1 : Int) ≤ (n + 1 : Nat) := by omega
  clear hn hL hLd hb4 hLn
  go_upto_region 11 with fail
  go_cut [44, 45, 46] (fun s44 s45 s46 wx => s45 = .int .i64 n ∧ s46 = .int .i64 0 ∧ wx = w4 ∧ ∃ o, s44 = .slice (some ⟨r, o, none⟩) n n ∧ (0 < n → o = 1))
  case first =>
    by_cases h0 : n = 0
    · subst h0
      go_wp2_with fail
      go_meet
      exact ⟨rfl, rfl, rfl, 0, rfl, fun h => absurd h (Nat.lt_irrefl _)⟩
    · go_wp2_with fail
      go_meet
      exact ⟨rfl, rfl, rfl, 1, rfl, fun _ => rfl⟩
  case rest =>
    obtain ⟨rfl, rfl, rfl, o, rfl, ho⟩ := hcut
    go_wp2_with fail
    go_loopw [9, 46] (fun v i wr => ∃ (k : Nat) (ns : List Nat), k ≤ n ∧ i = .int .i64 k ∧ nums ((t.take k).map (·.data.toList)) = some ns ∧ wr.ownsRow wc.heap.size 3 1 v ns.length (ints (natsB ns)) ∧ Below wc.heap.size wc wr) (fun _ i _ => n - (intOf i).toNat)
    case atStart => exact ⟨0, [], Nat.zero_le _, rfl, rfl, World.ownsRow_nil .., Below.refl ..⟩
    case round =>
      obtain ⟨j, ns, hj, rfl, hns, hown, hbc⟩ := hrel
      have hbw := HB4.out.trans (hbc.mono HB4.out.size)
      have HNS := Lib.hid hns
      have HOWN := Lib.hid hown
      have HBW := Lib.hid hbw
      have HBC := Lib.hid hbc
      have hlen : ns.length = j := by
        have h1 := nums_take hns
        rw [List.length_map, List.length_take] at h1
        have := HT.out
        omega
      clear hns hown hbw hbc
      by_cases hlt : j < n
      · have hq1 : decide (j < n) = true := decide_eq_true hlt
        obtain rfl := ho (by omega)
        obtain ⟨y, hy⟩ : ∃ y, t[j]? = some y := ⟨_, List.getElem?_eq_getElem (by have := HT.out; omega)⟩
        have hcy : wr.cell? ⟨r, 1 + j, none⟩ = some (.string y) := by
          obtain ⟨a', cap', e1, -, -, e4⟩ := HLL.out.below HBC.out
          obtain ⟨b', off', e5, -, e6⟩ := e4 (Nat.succ_pos _)
          cases e1
          cases e5
          have := e6 (j + 1) y (by rw [List.getElem?_cons_succ]; exact hy)
          rw [Nat.zero_add, Nat.add_comm j 1] at this
          exact this
        have hysz : y.size ≤ 2000 := by
          have h1 : y.data.toList ∈ cutAt 32 wd := by
            rw [← HLD.out, List.map_cons]
            exact List.mem_cons_of_mem _ (List.mem_map_of_mem (List.mem_of_getElem? hy))
          have h2 := cutAt_len h1
          have h3 : y.data.toList.length = y.size := rfl
          have := HK.out
          omega
        have HY := Lib.hid hy
        clear hy
        go_wp2_with fail
        refine (number_walk y wr B (by have := HBW.out.size; omega) (HE.out.on (HBW.out.mono (by omega))) (by omega)).mono ?_
        rintro e w6 ⟨⟨n0, ok, rfl, hcase⟩, hb6⟩
        have htake : (t.take (j + 1)).map (·.data.toList) = (t.take j).map (·.data.toList) ++ [y.data.toList] := by
          rw [List.take_succ_eq_append_getElem (List.getElem?_eq_some_iff.1 HY.out).1, (List.getElem?_eq_some_iff.1 HY.out).2]
          simp
        have HTK := Lib.hid htake
        have HB6 := Lib.hid (HBW.out.trans (hb6.mono HBW.out.size))
        have HC6 := Lib.hid (HBC.out.trans (hb6.mono HBC.out.size))
        have hown6 := ownsRow_later HOWN.out hb6
        have HO6 := Lib.hid hown6
        clear htake hown6 hb6
        rcases hcase with ⟨rfl, n1, rfl, hn⟩ | ⟨rfl, hn⟩
        rotate_left
        · have HN1 := Lib.hid hn
          clear hn
          go_wp2_with fail
          go_ret
          have hnn : nums (t.map (·.data.toList)) = none := by
            have h1 := nums_snoc (L := (t.take j).map (·.data.toList)) (s := y.data.toList)
            rw [HNS.out, HN1.out] at h1
            have h2 := nums_prefix (M := (t.drop (j + 1)).map (·.data.toList)) (h1.trans rfl)
            rw [← HTK.out, ← List.map_append, List.take_append_drop] at h2
            exact h2
          rw [parse_nums HC.out HN.out HLD.out.symm hnn]
          exact ⟨rfl, HB.out.later HB6.out, HB.out.frame HB6.out⟩
        have HN1 := Lib.hid hn
        have HM1 := Lib.hid (show ns.length + 1 ≤ maxLen from by unfold maxLen; omega)
        have HM2 := Lib.hid (show (ns.length + 1) * 8 ≤ 140737488355328 from by omega)
        clear hn
        go_wp2_with (at_builtin; go_must (refine wpList_push (.int .i64 0) 8 HO6.out Tryz.underlying42 infoInt6 rfl rfl rfl rfl HM1.out HM2.out HC6.out.size ?_; intro v' w7 hown1 hbel1 _; have HO7 := Lib.hid hown1; have HC7 := Lib.hid (HC6.out.trans hbel1); clear hown1 hbel1))
        go_roundw
        case rel =>
          refine ⟨j + 1, ns ++ [n1], by omega, by go_num, ?_, ?_, HC7.out⟩
          · rw [HTK.out, nums_snoc, HNS.out, HN1.out]
            rfl
          · have h := HO7.out
            simp only [natsB, List.map_append, ints, List.length_append] at h ⊢
            exact h
        case measure => simp [intOf]; omega
      · obtain rfl : j = n := by omega
        have hq1 : decide (j < j) = false := decide_eq_false (Nat.lt_irrefl _)
        have hcx : wr.cell? ⟨r, 0, none⟩ = some (.string x) := by
          obtain ⟨a', cap', e1, -, -, e4⟩ := HLL.out.below HBC.out
          obtain ⟨b', off', e5, -, e6⟩ := e4 (Nat.succ_pos _)
          cases e1
          cases e5
          exact e6 0 x rfl
        obtain ⟨hvn, hv⟩ := HasInts.of_own HOWN.out
        obtain ⟨m, hm⟩ : ∃ m, m = (natsB ns).length := ⟨_, rfl⟩
        have hmn : m = ns.length := by omega
        obtain ⟨va, vcap, rfl, hv2, hv3, hv4⟩ := hv
        rw [← hm] at hv4 ⊢
        have HM := Lib.hid hmn
        have HV4 := Lib.hid hv4
        have HVN := Lib.hid hvn
        have hnsf : nums (t.map (·.data.toList)) = some ns := by
          have := HNS.out
          rw [List.take_of_length_le (by have := HT.out; omega)] at this
          exact this
        have hparse := parse_cmd HC.out HN.out HLD.out.symm hnsf
        have HPR := Lib.hid hparse
        have hbook := HB.out.later HBW.out
        have HBK := Lib.hid hbook
        have HFR := Lib.hid (HB.out.frame HBW.out)
        have hgr : g < wr.heap.size := hbook.lt
        clear hvn hm hmn hv2 hv3 hv4 hnsf hparse hbook hlen
        by_cases h1 : x.toList = [119]
        · by_cases h2 : m = 2
          · subst h2
            obtain ⟨p, q, rfl⟩ : ∃ p q, ns = [p, q] := by
              have := HM.out
              match ns, this with
              | [p, q], _ => exact ⟨p, q, rfl⟩
            obtain ⟨vb, vo, rfl, -, hvc⟩ := HV4.out (by decide)
            have hc0 := hvc 0 p rfl
            have hc1 := hvc 1 q rfl
            rw [Nat.add_zero] at hc0
            have HP := Lib.hid (HPR.out.trans (cmdOf_w (str_eq (y := ⟨#[119]⟩) (by rw [← ByteArray.toList_eq]; exact h1)) rfl))
            clear hvc
            go_wp2_with fail
            go_still_tail 7, (by kernel_rfl)
            change wpList _ _ _ _ _ wr.drew
            go_wp2_with fail
            refine (bwrite_walk _ B g b p q (HBK.out.later (Below.refl wr.heap.size wr).drew) hB (HE.out.pow.on ((HBW.out.trans ((Below.refl wr.heap.size wr).drew.mono HBW.out.size)).mono (by omega))) hok).mono ?_
            rintro _ w7 ⟨rfl, hbk7, hf7⟩
            go_wp2_with fail
            go_ret
            rw [HP.out]
            exact ⟨rfl, hbk7, (HFR.out.trans (HBK.out.frame (Below.refl wr.heap.size wr).drew)).trans hf7⟩
          · have hq2 : ((m : Int) == 2) = false := beq_eq_false_iff_ne.2 (by omega)
            have HP := Lib.hid (HPR.out.trans (cmdOf_bad (fun h => h2 (HM.out.trans h.2)) (fun h => by rw [h.1, ByteArray.toList_eq] at h1; exact absurd h1 (by decide))))
            go_wp2_with fail
            all_goals
              go_ret
              rw [HP.out]
              exact ⟨rfl, HBK.out, HFR.out⟩
        · by_cases h2 : x.toList = [100]
          · by_cases h3 : m = 0
            · subst h3
              obtain rfl : ns = [] := List.length_eq_zero_iff.1 HM.out.symm
              have HP := Lib.hid (HPR.out.trans (cmdOf_d (str_eq (y := ⟨#[100]⟩) (by rw [← ByteArray.toList_eq]; exact h2)) rfl))
              go_wp2_with fail
              refine (bdo_walk wr B g b HBK.out hB (HE.out.pow.on (HBW.out.mono (by omega))) hok).mono ?_
              rintro _ w7 ⟨rfl, hbk7, hf7⟩
              go_wp2_with fail
              go_ret
              rw [HP.out]
              exact ⟨rfl, hbk7, HFR.out.trans hf7⟩
            · have hq2 : ((m : Int) == 0) = false := beq_eq_false_iff_ne.2 (by omega)
              have HP := Lib.hid (HPR.out.trans (cmdOf_bad (fun h => h1 (by rw [h.1, ByteArray.toList_eq])) (fun h => h3 (HM.out.trans h.2))))
              go_wp2_with fail
              all_goals
                go_ret
                rw [HP.out]
                exact ⟨rfl, HBK.out, HFR.out⟩
          · have HP := Lib.hid (HPR.out.trans (cmdOf_bad (fun h => h1 (by rw [h.1, ByteArray.toList_eq])) (fun h => h2 (by rw [h.1, ByteArray.toList_eq]))))
            go_wp2_with fail
            all_goals
              go_ret
              rw [HP.out]
              exact ⟨rfl, HBK.out, HFR.out⟩

end Go.Proofs.YtegibgflhhdddaaGreatDoor
