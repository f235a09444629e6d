/- The disk that writes behind what was written last, in plain lists (its lists are the flash's; nothing is counted). No program in it. -/
import Derived.Test.YtegibgflhhdddaaDoorFtlMath
namespace Go.Proofs.YtegibgflhhdddaaDoor.Ftl

/-- all but the pages that P names lie where they are said to lie -/
structure OkD (s : Fl) (P : Nat → Prop) : Prop where
  blen : s.blk.length = 6
  llen : s.loc.length = 8
  act : s.act < 6
  small : ∀ b, (s.row b).length ≤ 4
  page : ∀ b, ∀ p ∈ s.row b, p.1 < 8
  lies : ∀ p, p < 8 → ¬ P p → s.loc[p]? = some (-1, 0) ∨ ∃ (b i : Nat) (v : Int), b < 6 ∧ s.loc[p]? = some ((b : Int), i) ∧ (s.row b)[i]? = some (p, v)
  full : ∀ b, b < 6 → b ≠ s.act → s.row b = [] ∨ (s.row b).length = 4
abbrev Dok (s : Fl) : Prop := OkD s fun _ => False

theorem OkD.new : Dok Fl.new := by
  have h := Fl.new_ok
  exact ⟨h.blen, h.llen, h.act, h.small, h.page, h.lies, h.full⟩
theorem OkD.weaken {s : Fl} {P Q : Nat → Prop} (h : OkD s P) (hpq : ∀ p, p < 8 → P p → Q p) : OkD s Q :=
  ⟨h.blen, h.llen, h.act, h.small, h.page, fun p hp hn => h.lies p hp fun hP => hn (hpq p hp hP), h.full⟩

theorem OkD.down {s : Fl} {P : Nat → Prop} (h : OkD s P) {p : Page} (hp : p.1 < 8) (hl : (s.row s.act).length < 4) : OkD (s.down p) fun q => P q ∧ q ≠ p.1 := by
  have hr : ∀ c, (s.down p).row c = if s.act = c then s.row s.act ++ [p] else s.row c := fun c => Fl.row_set s s.act c _ _ _ _ (by rw [h.blen]; exact h.act)
  refine ⟨by simp [Fl.down, h.blen], by simp [Fl.down, h.llen], h.act, fun b => ?_, fun b q hq => ?_, fun q hq hn => ?_, fun b hb hne => ?_⟩
  · rw [hr]
    split
    · simp; omega
    · exact h.small b
  · rw [hr] at hq
    split at hq
    · simp at hq
      rcases hq with hq | rfl
      · exact h.page _ _ hq
      · exact hp
    · exact h.page _ _ hq
  · by_cases hqp : q = p.1
    · subst hqp
      refine .inr ⟨s.act, (s.row s.act).length, p.2, h.act, ?_, ?_⟩
      · simp [Fl.down, h.llen, hp]
      · rw [hr]; simp
    · have hloc : (s.down p).loc[q]? = s.loc[q]? := by simp only [Fl.down]; rw [List.getElem?_set_ne (by omega)]
      rw [hloc]
      rcases h.lies q hq (fun hP => hn ⟨hP, hqp⟩) with h1 | ⟨b, i, v, hb, h1, h2⟩
      · exact .inl h1
      · refine .inr ⟨b, i, v, hb, h1, ?_⟩
        rw [hr]
        split
        · rename_i e
          subst e
          rw [List.getElem?_append_left (List.getElem?_eq_some_iff.1 h2).1]
          exact h2
        · exact h2
  · rw [hr, if_neg (fun e => hne (by rw [← e]; rfl))]
    exact h.full b hb hne
theorem OkD.down_val {s : Fl} {P : Nat → Prop} (h : OkD s P) {p : Page} (hp : p.1 < 8) : (s.down p).val p.1 = p.2 ∧ ∀ q, q < 8 → ¬ P q → q ≠ p.1 → (s.down p).val q = s.val q := by
  have hr : ∀ c, (s.down p).row c = if s.act = c then s.row s.act ++ [p] else s.row c := fun c => Fl.row_set s s.act c _ _ _ _ (by rw [h.blen]; exact h.act)
  refine ⟨?_, fun q hq hn hne => ?_⟩
  · have hloc : (s.down p).loc[p.1]? = some ((s.act : Int), (s.row s.act).length) := by simp [Fl.down, h.llen, hp]
    unfold Fl.val
    rw [hloc]
    simp only [hr]
    rw [if_neg (by omega)]
    simp
  · have hloc : (s.down p).loc[q]? = s.loc[q]? := by simp only [Fl.down]; rw [List.getElem?_set_ne (by omega)]
    unfold Fl.val
    rw [hloc]
    rcases h.lies q hq hn with h1 | ⟨b, i, v, hb, h1, h2⟩
    · rw [h1]; simp
    · rw [h1]
      simp only [Int.toNat_natCast]
      rw [if_neg (by omega), if_neg (by omega), h2, hr]
      split
      · rename_i e
        subst e
        rw [List.getElem?_append_left (List.getElem?_eq_some_iff.1 h2).1, h2]
      · rw [h2]

theorem OkD.live_cnt {s : Fl} (h : Dok s) {b : Nat} : (s.live b).length = s.cnt b := by
  have hp : ((s.live b).map (·.1)).Perm ((List.range 8).filter fun p => decide ((s.loc[p]?).map (·.1) = some (b : Int))) := by
    have hnd : ((s.live b).map (·.1)).Nodup := Fl.live_nodup s b _
    rw [List.perm_ext_iff_of_nodup hnd (List.nodup_range.filter _)]
    intro q
    simp only [List.mem_map, List.mem_filter, List.mem_range, decide_eq_true_eq]
    constructor
    · rintro ⟨p, hp, rfl⟩
      obtain ⟨i, h1, h2⟩ := Fl.mem_live.1 hp
      exact ⟨h.page b p (List.mem_of_getElem? h1), by rw [h2]; rfl⟩
    · rintro ⟨hq, he⟩
      rcases h.lies q hq (by simp) with h1 | ⟨c, i, v, hc, h1, h2⟩
      · rw [h1] at he
        simp at he
      · rw [h1] at he
        simp at he
        have hcb : c = b := by omega
        subst hcb
        exact ⟨(q, v), Fl.mem_live.2 ⟨i, h2, h1⟩, rfl⟩
  have := hp.length_eq
  simpa [Fl.cnt] using this
theorem OkD.all_live {s : Fl} (h : Dok s) : (s.live 0).length + (s.live 1).length + (s.live 2).length + (s.live 3).length + (s.live 4).length + (s.live 5).length ≤ 8 := by
  rw [h.live_cnt, h.live_cnt, h.live_cnt, h.live_cnt, h.live_cnt, h.live_cnt]
  refine Nat.le_trans ?_ s.all_le
  unfold Fl.cnt Fl.all
  rw [six_filters (fun p => (s.loc[p]?).map (·.1)) (List.range 8) ?_]
  · refine Nat.le_of_eq ?_
    congr 1
    apply List.filter_congr
    intro p hp
    rcases h.lies p (List.mem_range.1 hp) (by simp) with h1 | ⟨b, i, v, hb, h1, -⟩
    · simp [h1]
    · simp [h1]
  · intro p hp
    rcases h.lies p (List.mem_range.1 hp) (by simp) with h1 | ⟨b, i, v, hb, h1, -⟩
    · exact .inl (by rw [h1]; rfl)
    · exact .inr ⟨b, hb, by rw [h1]; rfl⟩

/-- the head has no room -/
def Fl.tight (s : Fl) : Prop := (s.row s.act).length = 4
/-- there is no room at all -/
def Fl.crowded (s : Fl) : Prop := s.tight ∧ ∀ b, b < 6 → s.row b ≠ []
/-- b is the first that is empty -/
def Fl.isHole (s : Fl) (b : Nat) : Prop := b < 6 ∧ s.row b = [] ∧ ∀ c, c < b → s.row c ≠ []

theorem hole_or (s : Fl) : (∃ b, s.isHole b) ∨ ∀ b, b < 6 → s.row b ≠ [] := by
  have key : ∀ k, k ≤ 6 → (∃ b, s.isHole b) ∨ ∀ b, b < k → s.row b ≠ [] := by
    intro k
    induction k with
    | zero => intro _; exact .inr fun b hb => by omega
    | succ k ih =>
      intro hk
      rcases ih (by omega) with h | h
      · exact .inl h
      · by_cases he : s.row k = []
        · exact .inl ⟨k, by omega, he, h⟩
        · exact .inr fun b hb => by
            by_cases hbk : b = k
            · subst hbk; exact he
            · exact h b (by omega)
  exact key 6 (Nat.le_refl _)

theorem OkD.toHole {s : Fl} (h : Dok s) (ht : s.tight) {b : Nat} (hb : s.isHole b) : Dok { s with act := b } := by
  refine ⟨h.blen, h.llen, hb.1, h.small, h.page, h.lies, fun c hc hne => ?_⟩
  by_cases hca : c = s.act
  · subst hca; exact .inr ht
  · exact h.full c hc hca
theorem hole_val (s : Fl) (b : Nat) (q : Nat) : ({ s with act := b } : Fl).val q = s.val q := rfl
theorem hole_row (s : Fl) (b c : Nat) : ({ s with act := b } : Fl).row c = s.row c := rfl

theorem OkD.crowd {s : Fl} (h : Dok s) (hc : s.crowded) : ∀ b, b < 6 → (s.row b).length = 4 := fun b hb => by
  by_cases hba : b = s.act
  · subst hba; exact hc.1
  · rcases h.full b hb hba with h1 | h1
    · exact absurd h1 (hc.2 b hb)
    · exact h1

/-- the segment that is cleaned -/
theorem OkD.worst_is {s : Fl} (h : Dok s) : s.worst < 6 ∧ s.worst ≠ s.act ∧ s.worstTo 6 = (s.worst : Int) ∧ (s.live s.worst).length ≤ 1 := by
  obtain ⟨h1, h2, h3, h4, h5⟩ := Fl.worstTo_bounds s 6
  have ha := h.act
  have h0 : 0 ≤ s.worstTo 6 := by
    rcases Int.lt_or_le (s.worstTo 6) 0 with h6 | h6
    · have a := h4 h6 0 (by omega)
      have b := h4 h6 1 (by omega)
      omega
    · exact h6
  have hw : s.worstTo 6 = (s.worst : Int) := by unfold Fl.worst; omega
  refine ⟨by omega, fun e => h3 h0 (by rw [hw, e]), hw, ?_⟩
  rw [hw] at h5
  simp only [Int.toNat_natCast] at h5
  have hsum := h.all_live
  have e0 := h5 0 (by omega)
  have e1 := h5 1 (by omega)
  have e2 := h5 2 (by omega)
  have e3 := h5 3 (by omega)
  have e4 := h5 4 (by omega)
  have e5 := h5 5 (by omega)
  have hb' : s.act = 0 ∨ s.act = 1 ∨ s.act = 2 ∨ s.act = 3 ∨ s.act = 4 ∨ s.act = 5 := by omega
  rcases hb' with hb' | hb' | hb' | hb' | hb' | hb' <;> rw [hb'] at e0 e1 e2 e3 e4 e5 <;> simp at e0 e1 e2 e3 e4 e5 <;> omega

def Fl.wipe (s : Fl) (b : Nat) : Fl := { s with blk := s.blk.set b [] }
theorem OkD.wiped {s : Fl} (h : Dok s) {wo : Nat} (hw : wo < 6) :
    OkD (s.wipe wo) (fun p => ∃ v, (p, v) ∈ s.live wo) ∧ (∀ c, (s.wipe wo).row c = if wo = c then [] else s.row c) ∧
    (∀ p, p < 8 → ¬ (∃ v, (p, v) ∈ s.live wo) → (s.wipe wo).val p = s.val p) ∧ (∀ p ∈ s.live wo, p.1 < 8 ∧ s.val p.1 = p.2) := by
  have hr : ∀ c, (s.wipe wo).row c = if wo = c then [] else s.row c := fun c => Fl.row_set s wo c _ _ _ _ (by rw [h.blen]; exact hw)
  have hloc : (s.wipe wo).loc = s.loc := rfl
  refine ⟨⟨by simp [Fl.wipe, h.blen], h.llen, h.act, fun b => ?_, fun b q hq => ?_, fun q hq hn => ?_, fun b hb' hne => ?_⟩, hr, fun q hq hn => ?_, fun p hp => ?_⟩
  · rw [hr]
    split
    · simp
    · exact h.small b
  · rw [hr] at hq
    split at hq
    · simp at hq
    · exact h.page b q hq
  · rw [hloc]
    rcases h.lies q hq (by simp) with h1 | ⟨b, i, v, hb', h1, h2⟩
    · exact .inl h1
    · refine .inr ⟨b, i, v, hb', h1, ?_⟩
      rw [hr, if_neg]
      · exact h2
      · rintro rfl
        exact hn ⟨v, Fl.mem_live.2 ⟨i, h2, h1⟩⟩
  · rw [hr]
    split
    · exact .inl rfl
    · exact h.full b hb' hne
  · unfold Fl.val
    rw [hloc]
    rcases h.lies q hq (by simp) with h1 | ⟨b, i, v, hb', h1, h2⟩
    · rw [h1]; simp
    · rw [h1]
      simp only [Int.toNat_natCast]
      rw [if_neg (by omega), if_neg (by omega), hr, if_neg]
      rintro rfl
      exact hn ⟨v, Fl.mem_live.2 ⟨i, h2, h1⟩⟩
  · obtain ⟨i, h1, h2⟩ := Fl.mem_live.1 hp
    refine ⟨h.page wo p (List.mem_of_getElem? h1), ?_⟩
    unfold Fl.val
    rw [h2]
    simp only [Int.toNat_natCast]
    rw [if_neg (by omega), h1]
    rfl

/-- a crowded disk, cleaned -/
def Fl.cleaned (s : Fl) : Fl := match s.live s.worst with
  | [] => s.wipe s.worst
  | p :: _ => ({ s.wipe s.worst with act := s.worst } : Fl).down p
theorem OkD.cleaned {s : Fl} (h : Dok s) (hc : s.crowded) : Dok s.cleaned ∧ ¬ s.cleaned.crowded ∧ ∀ p, p < 8 → s.cleaned.val p = s.val p := by
  obtain ⟨w6, wne, -, hl1⟩ := h.worst_is
  obtain ⟨h1, h2, h3, h4⟩ := h.wiped w6
  have h44 := h.crowd hc
  unfold Fl.cleaned
  generalize s.worst = wo at *
  rcases hL : s.live wo with _ | ⟨p, _ | ⟨q, l⟩⟩
  · rw [hL] at h1 h3
    refine ⟨h1.weaken (by simp), fun hcr => hcr.2 wo w6 (by rw [h2, if_pos rfl]), fun p hp => h3 p hp (by simp)⟩
  · rw [hL] at h1 h3 h4
    have hp8 := h4 p (by simp)
    have hx : OkD ({ s.wipe wo with act := wo } : Fl) (fun q => ∃ v, (q, v) ∈ [p]) := by
      refine ⟨h1.blen, h1.llen, w6, h1.small, h1.page, h1.lies, fun c hc' hne => ?_⟩
      have hne' : wo ≠ c := fun e => hne e.symm
      show (s.wipe wo).row c = [] ∨ ((s.wipe wo).row c).length = 4
      rw [h2, if_neg hne']
      exact .inr (h44 c hc')
    have hrow : ({ s.wipe wo with act := wo } : Fl).row wo = [] := by
      show (s.wipe wo).row wo = []
      rw [h2, if_pos rfl]
    have hd := hx.down hp8.1 (show (({ s.wipe wo with act := wo } : Fl).row wo).length < 4 by rw [hrow]; exact Nat.zero_lt_succ _)
    have hv := hx.down_val hp8.1
    refine ⟨hd.weaken ?_, ?_, fun q hq => ?_⟩
    · rintro q hq ⟨⟨v, hv⟩, hne⟩
      simp at hv
      exact hne (by rw [← hv])
    · rintro ⟨ht, -⟩
      have hr := Fl.row_set ({ s.wipe wo with act := wo } : Fl) wo wo (({ s.wipe wo with act := wo } : Fl).row wo ++ [p]) (({ s.wipe wo with act := wo } : Fl).down p).loc s.er wo (by rw [hx.blen]; exact w6)
      rw [if_pos rfl, hrow] at hr
      have ht' : ((({ s.wipe wo with act := wo } : Fl).down p).row wo).length = 4 := ht
      have hr' : (({ s.wipe wo with act := wo } : Fl).down p).row wo = [p] := by
        refine Eq.trans ?_ hr
        unfold Fl.down
        rw [hrow]
        rfl
      rw [hr'] at ht'
      simp at ht'
    · by_cases hqp : q = p.1
      · subst hqp; rw [hv.1, hp8.2]
      · rw [hv.2 q hq ?_ hqp]
        · exact h3 q hq (by rintro ⟨v, hv⟩; simp at hv; exact hqp (by rw [← hv]))
        · rintro ⟨v, hv⟩; simp at hv; exact hqp (by rw [← hv])
  · rw [hL] at hl1; simp at hl1

/-- where it writes next -/
def Fl.place (s : Fl) : Fl := if (s.row s.act).length < 4 then s else { s with act := ((List.range 6).find? fun b => decide (s.row b = [])).getD s.act }
theorem place_room {s : Fl} (h : (s.row s.act).length < 4) : s.place = s := by unfold Fl.place; rw [if_pos h]
theorem place_hole {s : Fl} (h : ¬ (s.row s.act).length < 4) {b : Nat} (hb : s.isHole b) : s.place = { s with act := b } := by
  unfold Fl.place
  rw [if_neg h]
  have hf : (List.range 6).find? (fun b => decide (s.row b = [])) = some b := by
    rw [List.find?_eq_some_iff_getElem]
    refine ⟨by simpa using hb.2.1, b, by simpa using hb.1, by simp, fun j hj => ?_⟩
    have := hb.2.2 j (by omega)
    simpa using this
  rw [hf]
  rfl
theorem OkD.write {s : Fl} (h : Dok s) (hc : ¬ s.crowded) {p : Page} (hp : p.1 < 8) : Dok (s.place.down p) ∧ (s.place.down p).val p.1 = p.2 ∧ ∀ q, q < 8 → q ≠ p.1 → (s.place.down p).val q = s.val q := by
  have key : Dok s.place ∧ (s.place.row s.place.act).length < 4 ∧ ∀ q, s.place.val q = s.val q := by
    by_cases hl : (s.row s.act).length < 4
    · rw [place_room hl]
      exact ⟨h, hl, fun _ => rfl⟩
    · have ht : s.tight := by have := h.small s.act; unfold Fl.tight; omega
      rcases hole_or s with ⟨b, hb⟩ | hno
      · rw [place_hole hl hb]
        refine ⟨h.toHole ht hb, ?_, fun _ => rfl⟩
        show (s.row b).length < 4
        rw [hb.2.1]
        exact Nat.zero_lt_succ _
      · exact absurd ⟨ht, hno⟩ hc
  obtain ⟨k1, k2, k3⟩ := key
  obtain ⟨v1, v2⟩ := k1.down_val hp
  exact ⟨(k1.down hp k2).weaken (by simp), v1, fun q hq hne => by rw [v2 q hq (by simp) hne, k3]⟩

end Go.Proofs.YtegibgflhhdddaaDoor.Ftl
