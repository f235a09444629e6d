/- The walk of Make. -/
import Derived.Test.YtglcljeeigilnaaDoorDelta2
import Derived.Deep.RegionLaw
namespace Go.Proofs.YtglcljeeigilnaaDoor
open Go.RowKit Go.MapKept Delta
open Go.ChangeMaps (setBlock)

theorem infoI0 : (Tryd.prog.info? 3).map (fun i => (i.zero, i.size, i.bytes)) = some (some (.int .i64 0), 1, 8) := by kernel_rfl
theorem zeroInt : ∀ w : World, (zeroValue 3).run Tryd.prog w = .ok (.int .i64 0) w := fun w => by
  obtain ⟨i, hi, hz, -⟩ := info_parts infoI0
  simp [zeroValue, typeInfo, run_program, hi, hz, Result.andThen]
theorem infoPc : (Tryd.prog.info? 54).map (fun i => (i.zero, i.size, i.bytes)) = some (some (.agg #[.int .i64 0, .int .i64 0, .string ByteArray.empty]), 3, 32) := by kernel_rfl

set_option maxHeartbeats 1000000 in
theorem make_no (o t : ByteArray) (z : Int) (w : World) (ho : o.size ≤ 140737488351232) (ht : t.size ≤ 140737488351232) (hz : delE o t z ≠ 0) :
    Calls Tryd.prog 19 #[.string o, .string t, .int .i64 z] w fun e w' => e = .returned (.tuple #[.slice none 0 0, errC (delE o t z)]) ∧ w = w' := by
  obtain ⟨k, hk⟩ : ∃ k, k = delE o t z := ⟨_, rfl⟩
  have he : errC (delE o t z) = .iface 68 (.int .i64 k) := by unfold errC; rw [if_neg hz, hk]
  have HE := Lib.hid he
  rw [he]
  clear he hk hz
  go_enter Tryd.func19, Tryd.ntmps19
  go_wp2_with fail
  refine (check_any o t z _ ho ht).mono ?_
  rw [HE.out]
  rintro _ w1 ⟨rfl, rfl⟩
  go_wp2_with fail
  go_ret2
  exact ⟨rfl, rfl⟩

/-- the second loop's state -/
structure OutRel (wm wr : World) (B : Nat) (o t : ByteArray) (z i : Nat) (v : Value) (out : List Pc) : Prop where
  reach : Delta.Reach o t z (i, out)
  own : wr.ownsRow B 54 3 v out.length (piecesV out)
  below : Below B wm wr
theorem OutRel.len {wm wr : World} {B : Nat} {o t : ByteArray} {z i : Nat} {v : Value} {out : List Pc} (h : OutRel wm wr B o t z i v out) (hz : 1 ≤ z) (ht : t.size ≤ 2000) : i ≤ t.size ∧ out.length ≤ 2000 := by
  have h1 := (h.reach.back hz).le
  have h2 := (h.reach.back hz).len
  simp only at h1 h2
  omega

theorem own_shape {w : World} {base : Nat} {e : TypeId} {size : Nat} {v : Value} {n : Nat} {xs : List Value} (h : w.ownsRow base e size v n xs) : ∃ va cap, v = .slice va n cap := by
  rcases h.2 with ⟨rfl, h0⟩ | ⟨g', cap', cur, rfl, -⟩
  · exact ⟨none, 0, by subst h0; rfl⟩
  · exact ⟨_, _, rfl⟩
theorem OutRel.again {wm wr : World} {B : Nat} {o t : ByteArray} {z i : Nat} {v : Value} {out : List Pc} (h : OutRel wm wr B o t z i v out) {n : Int} (hn : n = i) :
    ∃ (j : Nat) (out : List Pc) (va : Option Addr) (cap : Nat), v = .slice va out.length cap ∧ Value.int .i64 n = .int .i64 j ∧ OutRel wm wr B o t z j (.slice va out.length cap) out := by
  obtain ⟨va, cap, rfl⟩ := own_shape h.own
  exact ⟨i, out, va, cap, rfl, by rw [hn], h⟩

/-- the first loop's state -/
structure MapRel (w wr : World) (o : ByteArray) (z k : Nat) (b : Nat) : Prop where
  le : k * z ≤ o.size
  below : Below w.heap.size w wr
  map : ∃ M c, wr.heap[b]? = some (.map (ents M) c) ∧ MapTo M c o z k

set_option maxRecDepth 100000 in
set_option maxHeartbeats 4000000 in
theorem make_ok (o t : ByteArray) (z : Nat) (w : World) (ho : o.size ≤ 2000) (ht : t.size ≤ 2000) (hz1 : 1 ≤ z) (hz64 : z ≤ 64) :
    Calls Tryd.prog 19 #[.string o, .string t, .int .i64 z] w fun e w' => ∃ v out, e = .returned (.tuple #[v, .nilIface]) ∧ Delta.Reach o t z (t.size, out) ∧ w'.ownsRow w.heap.size 54 3 v out.length (piecesV out) ∧ Below w.heap.size w w' := by
  have hmm := @run_makeMap Tryd.prog
  have D : delE o t z = 0 := by unfold delE; rw [if_neg (by omega), if_pos (by omega)]
  have HD := Lib.hid (show errC (delE o t z) = .nilIface by rw [D]; rfl)
  clear D
  go_enter Tryd.func19, Tryd.ntmps19
  go_wp2_with fail
  refine (check_any o t z _ (by omega) (by omega)).mono ?_
  rw [HD.out]
  rintro _ w1 ⟨rfl, rfl⟩
  go_wp2_with fail
  go_loopw [10] (fun ix wr => ∃ k : Nat, ix = .int .i64 (k * z : Nat) ∧ MapRel w wr o z k w.heap.size) (fun ix _ => (o.size + 1) - (intOf ix).toNat)
  case atStart => exact ⟨0, by simp, ⟨by simp, (Below.refl _ _).alloc (Nat.le_refl _) _, [], 0, heap_alloc_new w (.map #[] 0), MapTo.nil o z⟩⟩
  case round =>
    obtain ⟨k, rfl, hr⟩ := hrel
    have hkle := hr.le
    have HR := Lib.hid hr
    clear hr
    obtain ⟨i, hi⟩ : ∃ i, i = k * z := ⟨_, rfl⟩
    rw [← hi] at hkle ⊢
    have HI := Lib.hid hi
    have HI1 := Lib.hid (show i + z = (k + 1) * z by rw [hi, Nat.succ_mul])
    have HBK := Lib.hid (show o.extract i (i + z) = blk o z k by rw [hi]; rfl)
    clear hi
    obtain ⟨M, c, hmap, hM⟩ := HR.out.map
    have HM := Lib.hid hM
    clear hM
    by_cases hlt : i + z ≤ o.size
    · have q1 : decide ((i : Int) + (z : Int) ≤ (o.size : Int)) = true := decide_eq_true (by omega)
      rcases look_ents (P := Tryd.prog) (mt := 74) (t := o.extract i (i + z)) Tryd.underlying74 Tryd.underlying9 zeroInt hmap with ⟨hlk, hn⟩ | ⟨e, he, hlk, het⟩
      · have HN := Lib.hid hn
        have hup := update_ents (P := Tryd.prog) (mt := 74) (t := o.extract i (i + z)) Tryd.underlying74 Tryd.underlying9 hmap hn i
        have HMAP := Lib.hid hmap
        clear hmap hn
        go_wp2_with fail
        go_roundw
        case rel =>
          have hg2 : wr.grownBy (setBlock wr w.heap.size (.map (ents (M ++ [(o.extract i (i + z), i, c)])) (c + 1))) (some w.heap.size) := ⟨rfl, rfl, rfl, by simp [setBlock], fun k _ hk => setBlock_far _ _ (fun e => hk (by simp [e]))⟩
          refine ⟨k + 1, by rw [← HI1.out]; go_num, by rw [← HI1.out]; exact hlt, HR.out.below.grown hg2 HR.out.below.size (fun j hj => by cases hj; exact Nat.le_refl _), _, _, setBlock_same HMAP.out _, ?_⟩
          rw [HBK.out, HI.out]
          exact HM.out.new (fun e he => by rw [← HBK.out]; exact HN.out e he)
        case measure => simp [intOf]; omega
      · have HET := Lib.hid (show ∃ e ∈ M, e.1 = blk o z k from ⟨e, he, by rw [het, HBK.out]⟩)
        have HMAP := Lib.hid hmap
        clear hmap he het
        go_wp2_with fail
        go_roundw
        case rel => exact ⟨k + 1, by rw [← HI1.out]; go_num, by rw [← HI1.out]; exact hlt, HR.out.below, M, c, HMAP.out, HM.out.old HET.out⟩
        case measure => simp [intOf]; omega
    · have q1 : decide ((i : Int) + (z : Int) ≤ (o.size : Int)) = false := decide_eq_false (by omega)
      have HHIT := Lib.hid (fun (e : Ent) (he : e ∈ M) => HM.out.hit HR.out.le he)
      have HMISS := Lib.hid (fun (s : ByteArray) (h : ∀ e ∈ M, e.1 ≠ s) => HM.out.miss (by have := HI.out; omega) h)
      have HMAP := Lib.hid hmap
      have HB := Lib.hid HR.out.below
      have hbs : w.heap.size < wr.heap.size := (Array.getElem?_eq_some_iff.1 hmap).1
      clear hmap
      go_wp2_with fail
      obtain ⟨wm, rfl⟩ : ∃ wm : World, wm = wr := ⟨_, rfl⟩
      obtain ⟨B, hB⟩ : ∃ B, B = w.heap.size := ⟨_, rfl⟩
      have HBW := Lib.hid hB
      rw [← hB] at hbs HMAP ⊢
      clear hB
      have hbs1 : B + 1 ≤ wm.heap.size := hbs
      go_loopw [13, 14] (fun v ix wx => ∃ (j : Nat) (out : List Pc) (va : Option Addr) (cap : Nat), v = .slice va out.length cap ∧ ix = .int .i64 j ∧ OutRel wm wx (B + 1) o t z j (.slice va out.length cap) out) (fun _ ix _ => (t.size + 1) - (intOf ix).toNat)
      case atStart => exact ⟨0, [], none, 0, rfl, rfl, ⟨.start, World.ownsRow_nil _ _ _ _, Below.refl _ _⟩⟩
      case round =>
        obtain ⟨j, out, va, cap, rfl, rfl, hx⟩ := hrel
        obtain ⟨hjle, hol⟩ := hx.len hz1 ht
        have HX := Lib.hid hx
        clear hx
        have hxs : B + 1 ≤ wr.heap.size := Nat.le_trans hbs1 HX.out.below.size
        have HMX := Lib.hid (show wr.heap[B]? = some (.map (ents M) c) by rw [HX.out.below.block B (by omega)]; exact HMAP.out)
        by_cases hlt : j < t.size
        · have q2 : decide (j < t.size) = true := decide_eq_true hlt
          have hcase : (j + z ≤ t.size ∧ decide ((j : Int) + (z : Int) ≤ (t.size : Int)) = true ∧ ∃ n : Nat, (Instr.lookup 74 (.map (some B)) (.string (t.extract j (j + z))) true).run Tryd.prog wr = .ok (.tuple #[.int .i64 (n : Nat), .bool true]) wr ∧ Hit o z (t.extract j (j + z)) n) ∨
              ((decide ((j : Int) + (z : Int) ≤ (t.size : Int)) = false ∧ (j + z ≤ t.size → Miss o z (t.extract j (j + z)))) ∨
              (decide ((j : Int) + (z : Int) ≤ (t.size : Int)) = true ∧ (j + z ≤ t.size → Miss o z (t.extract j (j + z))) ∧ j + z ≤ t.size ∧ (Instr.lookup 74 (.map (some B)) (.string (t.extract j (j + z))) true).run Tryd.prog wr = .ok (.tuple #[.int .i64 0, .bool false]) wr)) := by
            by_cases h : j + z ≤ t.size
            · rcases look_ents (P := Tryd.prog) (mt := 74) (t := t.extract j (j + z)) Tryd.underlying74 Tryd.underlying9 zeroInt HMX.out with ⟨hlk, hn⟩ | ⟨e, he, hlk, het⟩
              · exact .inr (.inr ⟨decide_eq_true (by omega), fun _ => HMISS.out _ hn, h, hlk⟩)
              · exact .inl ⟨h, decide_eq_true (by omega), e.2.1, hlk, by rw [← het]; exact HHIT.out e he⟩
            · exact .inr (.inl ⟨decide_eq_false (by omega), fun h' => absurd h' h⟩)
          rcases hcase with ⟨hjz, q3, n, hlk, hhit⟩ | hcase
          · have HH := Lib.hid hhit
            clear hhit
            have hn1 : out.length + 1 ≤ maxLen := by unfold maxLen; omega
            have hn2 : (out.length + 1) * 32 ≤ 140737488355328 := by omega
            have HN1 := Lib.hid hn1
            have HN2 := Lib.hid hn2
            clear hn1 hn2
            go_wp2_with (at_builtin; go_must (refine wpList_pushN (us := [.int .i64 (n : Nat), .int .i64 (z : Nat), .string ByteArray.empty]) 3 _ 32 HX.out.own Tryd.underlying43 infoPc rfl (by omega) rfl rfl (by simp [Value.oneCell']) rfl HN1.out HN2.out hxs ?_; intro v' w5 hown1 hbel1 _; have HO1 := Lib.hid hown1; have HB1 := Lib.hid (HX.out.below.trans hbel1); clear hown1 hbel1))
            go_roundw
            case rel => exact (OutRel.mk (.step HX.out.reach (.hit hjz HH.out)) (by have h := HO1.out; rw [piecesV_append _ (⟨n, z, ByteArray.empty⟩ : Pc)] at h; simpa using h) HB1.out).again (by omega)
            case measure => simp [intOf]; omega
          · have hpush : ∀ (v' : Value) (w5 : World), w5.ownsRow (B + 1) 54 3 v' (push out (t.extract j (j + 1))).length (piecesV (push out (t.extract j (j + 1)))) → Below (B + 1) wm w5 → (j + z ≤ t.size → Miss o z (t.extract j (j + z))) → OutRel wm w5 (B + 1) o t z (j + 1) v' (push out (t.extract j (j + 1))) :=
              fun v' w5 h1 h2 h3 => ⟨.step HX.out.reach (.own hlt h3), h1, h2⟩
            have HPUSH := Lib.hid hpush
            have hosum := (HX.out.reach.back hz1).own
            have hown := HX.out.own
            have HBX := Lib.hid HX.out.below
            clear hpush HX
            rcases snoc_cases out with rfl | ⟨init, p, rfl⟩
            · have HOWN := Lib.hid hown
              have HN1 := Lib.hid (show 0 + 1 ≤ maxLen by unfold maxLen; omega)
              have HN2 := Lib.hid (show (0 + 1) * 32 ≤ 140737488355328 by omega)
              clear hown hosum hol
              rcases hcase with ⟨q3, hmiss⟩ | ⟨q3, hmiss, hjz, hlk⟩
              all_goals
                have HMS := Lib.hid hmiss
                clear hmiss
                go_wp2_with (at_builtin; go_must (refine wpList_pushN (us := [.int .i64 0, .int .i64 0, .string (t.extract j (j + 1))]) 3 _ 32 HOWN.out Tryd.underlying43 infoPc rfl (by omega) rfl rfl (by simp [Value.oneCell']) rfl HN1.out HN2.out hxs ?_; intro v' w5 hown1 hbel1 _; have HO1 := Lib.hid hown1; have HB1 := Lib.hid (HBX.out.trans hbel1); clear hown1 hbel1))
                go_roundw
                case rel => exact (HPUSH.out _ _ HO1.out HB1.out HMS.out).again (by omega)
                case measure => simp [intOf]; omega
            · obtain ⟨m, hm⟩ : ∃ m, m = init.length := ⟨_, rfl⟩
              have hlen : (init ++ [p]).length = m + 1 := by simp [hm]
              rw [hlen] at hown hol ⊢
              obtain ⟨r, cap', hsl, hbr, hrw⟩ := hown.form (by omega)
              obtain ⟨rfl, rfl⟩ : va = some ⟨r, 0, none⟩ ∧ cap = cap' := by simpa using hsl
              obtain ⟨p1, p2, p3⟩ := piecesV_at (l := init ++ [p]) (i := m) (p := p) (by rw [hm]; simp)
              have hc1 := hown.cellAt (m * 3 + 1) (by omega)
              have hc2 := hown.cellAt (m * 3 + 2) (by omega)
              rw [p2] at hc1
              rw [p3] at hc2
              have hfr := hown.frozenAt (m * 3 + 2)
              have hps : p.own.size ≤ 2000 := by simp only [ownsum_snoc] at hosum; omega
              have hg1 := hown.stored (m * 3 + 2) (.string (p.own ++ t.extract j (j + 1)))
              have hset : (piecesV (init ++ [p])).set (m * 3 + 2) (.string (p.own ++ t.extract j (j + 1))) = piecesV (init ++ [⟨p.pos, p.size, p.own ++ t.extract j (j + 1)⟩]) := by rw [hm]; exact piecesV_setOwn _ _ _
              have HG1 := Lib.hid hg1
              have HSET := Lib.hid hset
              have HOWN := Lib.hid hown
              have HLEN := Lib.hid hlen
              have HN1 := Lib.hid (show m + 1 + 1 ≤ maxLen by unfold maxLen; omega)
              have HN2 := Lib.hid (show (m + 1 + 1) * 32 ≤ 140737488355328 by omega)
              have q5 : decide ((0 : Int) < (m : Int) + 1) = true := decide_eq_true (by omega)
              clear hown hosum hsl hm hlen p1 p2 p3 hg1 hset
              by_cases hp0 : p.size = 0
              · have q6 : (p.size == 0) = true := beq_iff_eq.2 hp0
                have HP0 := Lib.hid hp0
                clear hp0
                rcases hcase with ⟨q3, hmiss⟩ | ⟨q3, hmiss, hjz, hlk⟩
                all_goals
                  have HMS := Lib.hid hmiss
                  clear hmiss
                  go_wp2_with fail
                  have s1 : IntKind.i64.wrap (m : Int) = (m : Int) := IntWalk.i64_in _ (by omega)
                  have s5 : (m : Int) < (m : Int) + 1 := by omega
                  have s6 : (0 : Int) ≤ (m : Int) := by omega
                  have s7 : (j : Int) + 1 ≤ (t.size : Int) := by omega
                  have s8 : (j : Int) ≤ (j : Int) + 1 := by omega
                  have s9 : ¬ (9223372036854775807 < p.own.size + (min (j + 1) t.size - j)) := by omega
                  have s2 : IntKind.i64.wrap ((j : Int) + 1) = (j : Int) + 1 := IntWalk.i64_in _ (by omega)
                  have s3 : (0 : Int) ≤ (j : Int) + 1 := by omega
                  have s4 : ((j : Int) + 1).toNat = j + 1 := by omega
                  go_region_law (fail)
                  all_goals
                    go_wp2_with fail
                    clear s1 s2 s3 s4 s5 s6 s7 s8 s9
                    go_roundw
                    case rel =>
                      have h := HG1.out.1
                      have hl := HLEN.out
                      rw [HSET.out] at h
                      have hpo := push_own init p (t.extract j (j + 1)) HP0.out
                      have hx := HPUSH.out _ (wr.setCell ⟨r, m * 3 + 2, none⟩ (.string (p.own ++ t.extract j (j + 1)))) (by rw [hpo, show (init ++ [(⟨p.pos, p.size, p.own ++ t.extract j (j + 1)⟩ : Pc)]).length = m + 1 by simpa using hl]; exact h) (HBX.out.grown HG1.out.2 hxs (fun k hk => by cases hk; exact hbr)) HMS.out
                      have hx' : OutRel wm ((wr.setCell ⟨r, m * 3 + 2, none⟩ (.string (p.own ++ t.extract j (j + 1)))).drew) (B + 1) o t z (j + 1) _ _ := ⟨hx.reach, hx.own, hx.below.drew⟩
                      exact hx'.again (by omega)
                    case measure => simp [intOf]; omega
              · have q6 : (p.size == 0) = false := beq_eq_false_iff_ne.2 hp0
                have HP0 := Lib.hid hp0
                clear hp0 hfr
                rcases hcase with ⟨q3, hmiss⟩ | ⟨q3, hmiss, hjz, hlk⟩
                all_goals
                  have HMS := Lib.hid hmiss
                  clear hmiss
                  go_wp2_with (at_builtin; go_must (refine wpList_pushN (us := [.int .i64 0, .int .i64 0, .string (t.extract j (j + 1))]) 3 _ 32 HOWN.out Tryd.underlying43 infoPc rfl (by omega) rfl rfl (by simp [Value.oneCell']) rfl HN1.out HN2.out hxs ?_; intro v' w5 hown1 hbel1 _; have HO1 := Lib.hid hown1; have HB1 := Lib.hid (HBX.out.trans hbel1); clear hown1 hbel1))
                  go_roundw
                  case rel =>
                    refine (HPUSH.out _ _ ?_ HB1.out HMS.out).again (by omega)
                    have h := HO1.out
                    rw [piecesV_append _ (⟨0, 0, t.extract j (j + 1)⟩ : Pc)] at h
                    rw [push_new _ _ _ HP0.out]
                    have hl := HLEN.out
                    simp only [List.length_append, List.length_cons, List.length_nil] at hl ⊢
                    rw [show init.length + (0 + 1 + 1) = m + 1 + 1 by omega]
                    simpa using h
                  case measure => simp [intOf]; omega
        · obtain rfl : j = t.size := by omega
          have q2 : decide (t.size < t.size) = false := decide_eq_false hlt
          have hown := HX.out.own
          have HR' := Lib.hid HX.out.reach
          have HOWN := Lib.hid (ownsRow_base (base' := B) hown (by omega))
          have HBX := Lib.hid (HB.out.trans (HX.out.below.mono (by have := HBW.out; omega)))
          clear hown
          go_wp2_with fail
          go_ret2
          exact ⟨_, out, rfl, HR'.out, by have h := HOWN.out; rw [HBW.out] at h; exact h, HBX.out⟩

end Go.Proofs.YtglcljeeigilnaaDoor
