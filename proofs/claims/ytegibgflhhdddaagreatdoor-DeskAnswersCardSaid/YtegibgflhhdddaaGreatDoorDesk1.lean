/- The desk: what an error is called; the numbers of a line. -/
import Derived.Test.YtegibgflhhdddaaGreatDoorDeskMath
import Derived.Test.YtegibgflhhdddaaGreatDoorBookTwo
namespace Go.Proofs.YtegibgflhhdddaaGreatDoor
open Go.RowKit

set_option maxRecDepth 100000 in
set_option maxHeartbeats 2000000 in
theorem errname_walk (k : Nat) (w : World) (h : 1 ≤ k ∧ k ≤ 7) :
    Calls Tryz.prog 49 #[.int .i64 (k : Nat)] w fun e w' => e = .returned (.string ⟨(tell k).toArray⟩) ∧ w = w' := by
  rcases k with _ | _ | _ | _ | _ | _ | _ | _ | k
  · omega
  all_goals first
    | omega
    | (go_enter Tryz.func49, Tryz.ntmps49
       go_wp2_with fail
       go_ret
       exact ⟨rfl, rfl⟩)

set_option maxRecDepth 100000 in
theorem dtold_walk (k : Nat) (w : World) (hg : Handled w) (h : k ≤ 7) :
    Calls Tryz.prog 35 #[errV (k : Nat)] w fun e w' => e = .returned (.string ⟨(tell k).toArray⟩) ∧ Below w.heap.size w w' := by
  by_cases h0 : k = 0
  · subst h0
    rw [show errV ((0 : Nat) : Int) = .nilIface from rfl]
    go_enter Tryz.func35, Tryz.ntmps35
    go_wp2_with fail
    refine (as_nil _ _).mono ?_
    rintro e w' ⟨rfl, hw⟩
    obtain rfl := hw.symm
    go_wp2_with fail
    go_ret
    exact ⟨rfl, (Below.refl _ _).alloc (Nat.le_refl _) _⟩
  · rw [show errV ((k : Nat) : Int) = .iface 80 (.int .i64 (k : Nat)) from if_neg (by omega)]
    have hgA := hg.below ((Below.refl _ w).alloc (Nat.le_refl _) (.cells #[.int .i64 0] 80))
    unfold Handled at hgA
    have HG := Lib.hid hgA
    clear hgA
    go_enter Tryz.func35, Tryz.ntmps35
    go_wp2_with fail
    refine (as_hit _ _ (.int .i64 0) _ HG.out (by simp) (by simp)).mono ?_
    rintro e w' ⟨rfl, rfl⟩
    go_wp2_with fail
    refine (errname_walk k _ (by omega)).mono ?_
    rintro e w' ⟨rfl, rfl⟩
    go_wp2_with fail
    go_ret
    refine ⟨rfl, ?_⟩
    repeat (first | exact Below.refl _ _ | refine Below.alloc ?_ (by simp <;> omega) _ | refine Below.setCell ?_ (by simp <;> omega) _)

theorem smalls_take {L : List (List UInt8)} {N : List Nat} (h : smalls L = some N) : N.length = L.length := by
  induction L generalizing N with
  | nil => simp [smalls] at h; subst h; rfl
  | cons s r ih =>
    unfold smalls at h
    split at h
    · cases h
    · obtain ⟨M, hM, rfl⟩ := Option.map_eq_some_iff.1 h
      rw [List.length_cons, List.length_cons, ih hM]
theorem smalls_snoc {L : List (List UInt8)} {s : List UInt8} : smalls (L ++ [s]) = match smalls L with
    | none => none
    | some N => (small s).map (fun n => N ++ [n]) := by
  induction L with
  | nil =>
    simp only [List.nil_append, smalls]
    cases small s <;> rfl
  | cons x r ih =>
    simp only [List.cons_append, smalls, ih]
    cases small x with
    | none => rfl
    | some n =>
      cases smalls r with
      | none => rfl
      | some N => cases small s <;> rfl
theorem smalls_prefix {L M : List (List UInt8)} (h : smalls L = none) : smalls (L ++ M) = none := by
  induction L with
  | nil => simp [smalls] at h
  | cons x r ih =>
    simp only [List.cons_append, smalls] at h ⊢
    cases hx : small x with
    | none => rfl
    | some n =>
      rw [hx] at h
      simp only [Option.map_eq_none_iff] at h
      simp only [ih h, Option.map_none]
theorem smalls_stop {t : List ByteArray} {j : Nat} {y : ByteArray} {ns : List Nat} (hy : t[j]? = some y) (hns : smalls ((t.take j).map (·.data.toList)) = some ns) (h : small y.data.toList = none) : smalls (t.map (·.data.toList)) = none := by
  have htake : (t.take (j + 1)).map (·.data.toList) = (t.take j).map (·.data.toList) ++ [y.data.toList] := by
    rw [List.take_succ_eq_append_getElem (List.getElem?_eq_some_iff.1 hy).1, (List.getElem?_eq_some_iff.1 hy).2]
    simp
  have h1 := smalls_snoc (L := (t.take j).map (·.data.toList)) (s := y.data.toList)
  rw [hns, h] at h1
  have h2 := smalls_prefix (M := (t.drop (j + 1)).map (·.data.toList)) (h1.trans rfl)
  rw [← htake, ← List.map_append, List.take_append_drop] at h2
  exact h2
theorem small_no {s : List UInt8} (h : numOf s = none) : small s = none := by unfold small; rw [h]
theorem small_long {s : List UInt8} (h : 7 < s.length) : small s = none := by
  unfold small
  split
  · rw [if_neg (by omega)]
  · rfl
theorem small_yes {s : List UInt8} {n : Nat} (h : numOf s = some n) (h7 : s.length ≤ 7) : small s = some n := by
  unfold small
  rw [h]
  exact if_pos h7

set_option maxRecDepth 100000 in
set_option maxHeartbeats 4000000 in
theorem dwords_walk (w : World) (B : Nat) (r : Option Addr) (n c : Nat) (t : List ByteArray) (hv : HasStrs w (.slice r n c) t) (hn : n = t.length) (hB : B ≤ w.heap.size) (hE : Env B w) (hs : ∀ y ∈ t, y.size ≤ 10000) (hn2 : n ≤ 10000) :
    Calls Tryz.prog 24 #[.slice r n c] w fun e w' => ((∃ ns u, smalls (t.map (·.data.toList)) = some ns ∧ e = .returned (.tuple #[u, .bool true]) ∧ w'.ownsRow w.heap.size 3 1 u ns.length (ints (natsB ns))) ∨
      (smalls (t.map (·.data.toList)) = none ∧ e = .returned (.tuple #[.slice none 0 0, .bool false]))) ∧ Below w.heap.size w w' := by
  have HV := Lib.hid hv
  have HE := Lib.hid hE
  have HS := Lib.hid hs
  have HN := Lib.hid hn
  clear hv hE hs hn
  go_enter Tryz.func24, Tryz.ntmps24
  go_wp2_with fail
  go_loopw [4, 11] (fun v i wr => ∃ (k : Nat) (ns : List Nat), k ≤ n ∧ i = .int .i64 k ∧ smalls ((t.take k).map (·.data.toList)) = some ns ∧ wr.ownsRow w.heap.size 3 1 v ns.length (ints (natsB ns)) ∧ Below w.heap.size w wr) (fun _ i _ => n - (intOf i).toNat)
  case atStart => exact ⟨0, [], Nat.zero_le _, rfl, rfl, World.ownsRow_nil .., Below.refl ..⟩
  case round =>
    obtain ⟨j, ns, hj, rfl, hns, hown, hbc⟩ := hrel
    have HNS := Lib.hid hns
    have HOWN := Lib.hid hown
    have HBC := Lib.hid hbc
    have hlen : ns.length = j := by
      have h1 := smalls_take hns
      rw [List.length_map, List.length_take] at h1
      have := HN.out
      omega
    clear hns hown hbc
    by_cases hlt : j < n
    · have hq1 : decide (j < n) = true := decide_eq_true hlt
      obtain ⟨y, hy⟩ : ∃ y, t[j]? = some y := ⟨_, List.getElem?_eq_getElem (by have := HN.out; omega)⟩
      obtain ⟨rb, ro, rfl, hcy⟩ : ∃ rb ro, r = some ⟨rb, ro, none⟩ ∧ wr.cell? ⟨rb, ro + j, none⟩ = some (.string y) := by
        obtain ⟨a', cap', e1, -, -, e4⟩ := HV.out.below HBC.out
        obtain ⟨b', off', e5, -, e6⟩ := e4 (by have := HN.out; omega)
        cases e1
        exact ⟨b', off', e5, e6 j y hy⟩
      have hysz : y.size ≤ 10000 := HS.out y (List.mem_of_getElem? hy)
      have HY := Lib.hid hy
      clear hy
      go_wp2_with fail
      cases hat : Lib.atoiAll y.data.toList with
      | «syntax» =>
        have HAT := Lib.hid hat
        clear hat
        obtain ⟨tp, p, hvar⟩ := (HE.out.on (HBC.out.mono hB)).here.syn
        refine (Tryz.strconv_Atoi_syntax_var y (by omega) HAT.out tp p wr hvar).mono ?_
        rintro e w1 ⟨N, rfl, -, -, hb1⟩
        have HB1 := Lib.hid (HBC.out.trans (hb1.mono HBC.out.size))
        clear hb1 hvar
        go_wp2_with fail
        go_ret2
        exact ⟨.inr ⟨smalls_stop HY.out HNS.out (small_no (numRes_no fun n e => by rw [HAT.out] at e; cases e)), rfl⟩, HB1.out⟩
      | range =>
        have HAT := Lib.hid hat
        clear hat
        obtain ⟨tp, p, hvar⟩ := (HE.out.on (HBC.out.mono hB)).here.rng
        refine (Tryz.strconv_Atoi_range_var y (by omega) HAT.out tp p wr hvar).mono ?_
        rintro e w1 ⟨N, rfl, -, -, hb1⟩
        have HB1 := Lib.hid (HBC.out.trans (hb1.mono HBC.out.size))
        clear hb1 hvar
        go_wp2_with fail
        go_ret2
        exact ⟨.inr ⟨smalls_stop HY.out HNS.out (small_no (numRes_no fun n e => by rw [HAT.out] at e; cases e)), rfl⟩, HB1.out⟩
      | ok v =>
        have HAT := Lib.hid hat
        clear hat
        have hv := atoi_range HAT.out
        refine (Tryz.strconv_Atoi_ok y (by omega) v HAT.out wr).mono ?_
        rintro e w1 ⟨rfl, hw1⟩
        have hb1 : Below wr.heap.size wr w1 := by
          rcases hw1 with rfl | ⟨t, rfl⟩
          · exact Below.refl _ _
          · exact Lib.bytesWorld_below _ _ _
        have HB1 := Lib.hid (HBC.out.trans (hb1.mono HBC.out.size))
        have HO1 := Lib.hid (ownsRow_later HOWN.out hb1)
        clear hw1 hb1
        by_cases h0 : 0 ≤ v
        · have q1 : decide (v < 0) = false := decide_eq_false (by omega)
          by_cases h7 : y.size ≤ 7
          · have q2 : decide ((7 : Int) < (y.size : Int)) = false := decide_eq_false (by omega)
            go_wp2_with fail
            refine (itoa_walk v w1 B (HE.out.pow.on (HB1.out.mono hB)) h0 hv.2).mono ?_
            rintro e w2 ⟨rfl, hb2⟩
            have HB2 := Lib.hid (HB1.out.trans (hb2.mono HB1.out.size))
            have HO2 := Lib.hid (ownsRow_later HO1.out hb2)
            clear hb2
            obtain ⟨z, hz⟩ := named (Lib.decDigits v.toNat)
            rw [← hz]
            have hnr := numRes_yes (s := y) h0 (atoi_lt HAT.out h0) rfl HAT.out
            have hbq : (z.toList == y.toList) = (Lib.decDigits v.toNat == y.toList) := by rw [hz, ByteArray.toList_eq]
            rw [← hbq] at hnr
            have hyl : y.data.toList.length = y.size := rfl
            rcases hnr with ⟨hq, n1, hvn, hnum⟩ | ⟨hq, hnum⟩
            · have HSM := Lib.hid (small_yes hnum (by omega))
              have htake : (t.take (j + 1)).map (·.data.toList) = (t.take j).map (·.data.toList) ++ [y.data.toList] := by
                rw [List.take_succ_eq_append_getElem (List.getElem?_eq_some_iff.1 HY.out).1, (List.getElem?_eq_some_iff.1 HY.out).2]
                simp
              have HTK := Lib.hid htake
              have HM1 := Lib.hid (show ns.length + 1 ≤ maxLen from by unfold maxLen; omega)
              have HM2 := Lib.hid (show (ns.length + 1) * 8 ≤ 140737488355328 from by omega)
              have HVN := Lib.hid hvn
              clear hz hbq hnum htake hvn
              go_wp2_with (at_builtin; go_must (refine wpList_push (.int .i64 0) 8 HO2.out Tryz.underlying42 infoInt6 rfl rfl rfl rfl HM1.out HM2.out HB2.out.size ?_; intro v' w7 hown1 hbel1 _; have HO7 := Lib.hid hown1; have HC7 := Lib.hid (HB2.out.trans hbel1); clear hown1 hbel1))
              go_roundw
              case rel =>
                refine ⟨j + 1, ns ++ [n1], by omega, by go_num, ?_, ?_, HC7.out⟩
                · rw [HTK.out, smalls_snoc, HNS.out, HSM.out]
                  rfl
                · have h := HO7.out
                  rw [HVN.out] at h
                  simp only [natsB, List.map_append, ints, List.length_append] at h ⊢
                  exact h
              case measure => simp [intOf]; omega
            · have HSM := Lib.hid (small_no hnum)
              clear hz hbq hnum
              go_wp2_with fail
              go_ret2
              exact ⟨.inr ⟨smalls_stop HY.out HNS.out HSM.out, rfl⟩, HB2.out⟩
          · have q2 : decide ((7 : Int) < (y.size : Int)) = true := decide_eq_true (by omega)
            have hyl : y.data.toList.length = y.size := rfl
            have HSM := Lib.hid (small_long (s := y.data.toList) (by omega))
            clear hyl
            go_wp2_with fail
            go_ret2
            exact ⟨.inr ⟨smalls_stop HY.out HNS.out HSM.out, rfl⟩, HB1.out⟩
        · have q1 : decide (v < 0) = true := decide_eq_true (by omega)
          go_wp2_with fail
          go_ret2
          exact ⟨.inr ⟨smalls_stop HY.out HNS.out (small_no (numRes_no fun n e => by rw [HAT.out] at e; injection e with e; omega)), rfl⟩, HB1.out⟩
    · obtain rfl : j = n := by omega
      have hq1 : decide (j < j) = false := decide_eq_false (Nat.lt_irrefl _)
      have hfin : smalls (t.map (·.data.toList)) = some ns := by
        have h := HNS.out
        rw [List.take_of_length_le (by have := HN.out; omega)] at h
        exact h
      have HFIN := Lib.hid hfin
      clear hfin
      go_wp2_with fail
      go_ret2
      exact ⟨.inl ⟨ns, _, HFIN.out, rfl, HOWN.out⟩, HBC.out⟩

end Go.Proofs.YtegibgflhhdddaaGreatDoor
