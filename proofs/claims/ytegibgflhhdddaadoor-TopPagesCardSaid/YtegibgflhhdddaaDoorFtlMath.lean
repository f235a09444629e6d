/- The flash, in plain lists: what is written, what lives, which block is next. -/
import Derived.Lib.Hide
namespace Go.Proofs.YtegibgflhhdddaaDoor.Ftl

abbrev Page := Nat × Int
structure Fl where
  blk : List (List Page)
  loc : List (Int × Nat)
  er : List Nat
  act : Nat

def Fl.row (s : Fl) (b : Nat) : List Page := s.blk[b]?.getD []
def Fl.new : Fl := ⟨List.replicate 6 [], List.replicate 8 (-1, 0), List.replicate 6 0, 0⟩

def Fl.liveTo (s : Fl) (b : Nat) : Nat → List Page
  | 0 => []
  | k + 1 => s.liveTo b k ++ (match (s.row b)[k]? with
    | some p => if s.loc[p.1]? = some ((b : Int), k) then [p] else []
    | none => [])
def Fl.live (s : Fl) (b : Nat) : List Page := s.liveTo b (s.row b).length

theorem Fl.liveTo_yes {s : Fl} {b k : Nat} {p : Page} (h : (s.row b)[k]? = some p) (hl : s.loc[p.1]? = some ((b : Int), k)) : s.liveTo b (k + 1) = s.liveTo b k ++ [p] := by
  simp [Fl.liveTo, h, hl]
theorem Fl.liveTo_no {s : Fl} {b k : Nat} {p : Page} (h : (s.row b)[k]? = some p) (hl : s.loc[p.1]? ≠ some ((b : Int), k)) : s.liveTo b (k + 1) = s.liveTo b k := by
  simp [Fl.liveTo, h, hl]
theorem Fl.liveTo_length (s : Fl) (b k : Nat) : (s.liveTo b k).length ≤ k := by
  induction k with
  | zero => simp [Fl.liveTo]
  | succ k ih =>
    simp only [Fl.liveTo, List.length_append]
    split
    · split <;> simp <;> omega
    · simp; omega
theorem Fl.mem_liveTo {s : Fl} {b k : Nat} {p : Page} : p ∈ s.liveTo b k ↔ ∃ i, i < k ∧ (s.row b)[i]? = some p ∧ s.loc[p.1]? = some ((b : Int), i) := by
  induction k with
  | zero => simp [Fl.liveTo]
  | succ k ih =>
    simp only [Fl.liveTo, List.mem_append, ih]
    constructor
    · rintro (⟨i, hi, h⟩ | h)
      · exact ⟨i, by omega, h⟩
      · split at h
        · rename_i q hq
          split at h
          · simp at h
            subst h
            exact ⟨k, by omega, hq, by assumption⟩
          · simp at h
        · simp at h
    · rintro ⟨i, hi, h1, h2⟩
      by_cases hik : i < k
      · exact .inl ⟨i, hik, h1, h2⟩
      · obtain rfl : i = k := by omega
        right
        simp [h1, h2]
theorem Fl.mem_live {s : Fl} {b : Nat} {p : Page} : p ∈ s.live b ↔ ∃ i, (s.row b)[i]? = some p ∧ s.loc[p.1]? = some ((b : Int), i) := by
  unfold Fl.live
  rw [Fl.mem_liveTo]
  constructor
  · rintro ⟨i, -, h⟩
    exact ⟨i, h⟩
  · rintro ⟨i, h⟩
    exact ⟨i, (List.getElem?_eq_some_iff.1 h.1).1, h⟩
theorem Fl.live_nodup (s : Fl) (b k : Nat) : ((s.liveTo b k).map (·.1)).Nodup := by
  induction k with
  | zero => simp [Fl.liveTo]
  | succ k ih =>
    simp only [Fl.liveTo, List.map_append]
    split
    · rename_i q hq
      split
      · rename_i hl
        rw [List.nodup_append]
        refine ⟨ih, by simp, fun a ha c hc => ?_⟩
        simp at hc
        subst hc
        intro e
        subst e
        obtain ⟨p, hp, he⟩ := List.mem_map.1 ha
        obtain ⟨i, hi, h1, h2⟩ := Fl.mem_liveTo.1 hp
        rw [he, hl] at h2
        simp at h2
        omega
      · simpa using ih
    · simpa using ih

def Fl.down (s : Fl) (p : Page) : Fl := { s with blk := s.blk.set s.act (s.row s.act ++ [p]), loc := s.loc.set p.1 ((s.act : Int), (s.row s.act).length) }

def Fl.empties (s : Fl) : List Nat := (List.range 6).filter fun b => decide ((s.row b).length = 0)

/-- the first of the least of a list -/
def pick (f : Nat → Nat) : List Nat → Nat
  | [] => 0
  | x :: l => l.foldl (fun m y => if f y < f m then y else m) x

def Fl.times (s : Fl) (b : Nat) : Nat := s.er[b]?.getD 0
def Fl.best (s : Fl) : Nat := pick s.times s.empties
def Fl.turn (s : Fl) : Fl := { s with act := s.best }
/-- of the first b blocks the first with the fewest pages that live, but for the active one (nothing: -1) -/
def Fl.worstTo (s : Fl) : Nat → Int
  | 0 => -1
  | b + 1 => if b ≠ s.act ∧ (s.worstTo b < 0 ∨ (s.live b).length < (s.live (s.worstTo b).toNat).length) then (b : Int) else s.worstTo b
def Fl.worst (s : Fl) : Nat := (s.worstTo 6).toNat
def Fl.erase (s : Fl) (b : Nat) : Fl := { s with blk := s.blk.set b [], er := s.er.set b (s.times b + 1) }
def Fl.next (s : Fl) : Fl := if 1 < s.empties.length then s.turn else (s.turn.live s.turn.worst).foldl Fl.down (s.turn.erase s.turn.worst)
def Fl.write (s : Fl) (p : Page) : Fl := (if (s.row s.act).length = 4 then s.next else s).down p

theorem Fl.worstTo_bounds (s : Fl) (k : Nat) : -1 ≤ s.worstTo k ∧ s.worstTo k < k ∧ (0 ≤ s.worstTo k → s.worstTo k ≠ s.act) ∧ (s.worstTo k < 0 → ∀ b, b < k → b = s.act) ∧
    ∀ b, b < k → b ≠ s.act → (s.live (s.worstTo k).toNat).length ≤ (s.live b).length := by
  induction k with
  | zero => simp [Fl.worstTo]
  | succ k ih =>
    obtain ⟨h1, h2, h3, h4, h5⟩ := ih
    simp only [Fl.worstTo]
    split
    · rename_i h
      refine ⟨by omega, by omega, fun _ => by omega, fun h => by omega, fun b hb hne => ?_⟩
      simp only [Int.toNat_natCast]
      by_cases hbk : b < k
      · rcases h.2 with h6 | h6
        · exact absurd (h4 h6 b hbk) hne
        · have := h5 b hbk hne; omega
      · obtain rfl : b = k := by omega
        exact Nat.le_refl _
    · rename_i h
      refine ⟨h1, by omega, h3, fun h6 b hb => ?_, fun b hb hne => ?_⟩
      · by_cases hbk : b < k
        · exact h4 h6 b hbk
        · obtain rfl : b = k := by omega
          exact Classical.byContradiction fun hne => h ⟨hne, .inl h6⟩
      · by_cases hbk : b < k
        · exact h5 b hbk hne
        · obtain rfl : b = k := by omega
          rcases Nat.lt_or_ge (s.live b).length (s.live (s.worstTo b).toNat).length with h6 | h6
          · exact absurd ⟨hne, .inr h6⟩ h
          · exact h6

theorem pick_mem (f : Nat → Nat) {l : List Nat} (h : l ≠ []) : pick f l ∈ l := by
  cases l with
  | nil => exact absurd rfl h
  | cons x l =>
    have key : ∀ (l : List Nat) (m : Nat), l.foldl (fun m y => if f y < f m then y else m) m = m ∨ l.foldl (fun m y => if f y < f m then y else m) m ∈ l := by
      intro l
      induction l with
      | nil => intro m; exact .inl rfl
      | cons y l ih =>
        intro m
        simp only [List.foldl_cons]
        rcases ih (if f y < f m then y else m) with h | h
        · rw [h]
          split
          · exact .inr (by simp)
          · exact .inl rfl
        · exact .inr (List.mem_cons_of_mem _ h)
    rcases key l x with h | h
    · simp [pick, h]
    · exact List.mem_cons_of_mem _ h

/-- all but the pages that P names lie where they are said to lie -/
structure OkP (s : Fl) (P : Nat → Prop) : Prop where
  blen : s.blk.length = 6
  llen : s.loc.length = 8
  elen : s.er.length = 6
  act : s.act < 6
  small : ∀ b, (s.row b).length ≤ 4
  page : ∀ b, ∀ p ∈ s.row b, p.1 < 8
  lies : ∀ p, p < 8 → ¬ P p → s.loc[p]? = some (-1, 0) ∨ ∃ (b i : Nat) (v : Int), b < 6 ∧ s.loc[p]? = some ((b : Int), i) ∧ (s.row b)[i]? = some (p, v)
  full : ∀ b, b < 6 → b ≠ s.act → s.row b = [] ∨ (s.row b).length = 4
  spare : ∃ b, b < 6 ∧ b ≠ s.act ∧ s.row b = []

abbrev Ok (s : Fl) : Prop := OkP s fun _ => False

def Fl.val (s : Fl) (p : Nat) : Int := match s.loc[p]? with
  | some (b, i) => if b < 0 then 0 else (((s.row b.toNat)[i]?).map (·.2)).getD 0
  | none => 0

theorem Fl.new_ok : Ok Fl.new := by
  refine ⟨rfl, rfl, rfl, by decide, fun b => ?_, fun b p hp => ?_, fun p hp _ => .inl ?_, fun b hb _ => .inl ?_, ⟨1, by decide, by decide, rfl⟩⟩
  · have : Fl.new.row b = [] := by simp only [Fl.row, Fl.new, List.getElem?_replicate]; split <;> rfl
    simp [this]
  · have : Fl.new.row b = [] := by simp only [Fl.row, Fl.new, List.getElem?_replicate]; split <;> rfl
    simp [this] at hp
  · simp only [Fl.new, List.getElem?_replicate]; rw [if_pos hp]
  · simp only [Fl.row, Fl.new, List.getElem?_replicate]; split <;> rfl

theorem Fl.row_set (s : Fl) (b c : Nat) (r : List Page) (l : List (Int × Nat)) (e : List Nat) (a : Nat) (hb : b < s.blk.length) : (Fl.mk (s.blk.set b r) l e a).row c = if b = c then r else s.row c := by
  simp only [Fl.row, List.getElem?_set]
  split
  · rename_i h; subst h; simp
  · rfl

theorem OkP.down {s : Fl} {P : Nat → Prop} (h : OkP s P) {p : Page} (hp : p.1 < 8) (hl : (s.row s.act).length < 4) : OkP (s.down p) fun q => P q ∧ q ≠ p.1 := by
  have hr : ∀ c, (s.down p).row c = if s.act = c then s.row s.act ++ [p] else s.row c := fun c => Fl.row_set s s.act c _ _ _ _ (by rw [h.blen]; exact h.act)
  refine ⟨by simp [Fl.down, h.blen], by simp [Fl.down, h.llen], h.elen, h.act, fun b => ?_, fun b q hq => ?_, fun q hq hn => ?_, fun b hb hne => ?_, ?_⟩
  · rw [hr]
    split
    · simp; omega
    · exact h.small b
  · rw [hr] at hq
    split at hq
    · simp at hq
      rcases hq with hq | rfl
      · exact h.page _ _ hq
      · exact hp
    · exact h.page _ _ hq
  · by_cases hqp : q = p.1
    · subst hqp
      refine .inr ⟨s.act, (s.row s.act).length, p.2, h.act, ?_, ?_⟩
      · simp [Fl.down, h.llen, hp]
      · rw [hr]; simp
    · have hloc : (s.down p).loc[q]? = s.loc[q]? := by simp only [Fl.down]; rw [List.getElem?_set_ne (by omega)]
      rw [hloc]
      rcases h.lies q hq (fun hP => hn ⟨hP, hqp⟩) with h1 | ⟨b, i, v, hb, h1, h2⟩
      · exact .inl h1
      · refine .inr ⟨b, i, v, hb, h1, ?_⟩
        rw [hr]
        split
        · rename_i e
          subst e
          rw [List.getElem?_append_left (List.getElem?_eq_some_iff.1 h2).1]
          exact h2
        · exact h2
  · rw [hr, if_neg (fun e => hne (by rw [← e]; rfl))]
    exact h.full b hb hne
  · obtain ⟨b, hb, hne, he⟩ := h.spare
    exact ⟨b, hb, hne, by rw [hr, if_neg (fun e => hne e.symm)]; exact he⟩

theorem OkP.down_val {s : Fl} {P : Nat → Prop} (h : OkP s P) {p : Page} (hp : p.1 < 8) : (s.down p).val p.1 = p.2 ∧ ∀ q, q < 8 → ¬ P q → q ≠ p.1 → (s.down p).val q = s.val q := by
  have hr : ∀ c, (s.down p).row c = if s.act = c then s.row s.act ++ [p] else s.row c := fun c => Fl.row_set s s.act c _ _ _ _ (by rw [h.blen]; exact h.act)
  refine ⟨?_, fun q hq hn hne => ?_⟩
  · have hloc : (s.down p).loc[p.1]? = some ((s.act : Int), (s.row s.act).length) := by simp [Fl.down, h.llen, hp]
    unfold Fl.val
    rw [hloc]
    simp only [hr]
    rw [if_neg (by omega)]
    simp
  · have hloc : (s.down p).loc[q]? = s.loc[q]? := by simp only [Fl.down]; rw [List.getElem?_set_ne (by omega)]
    unfold Fl.val
    rw [hloc]
    rcases h.lies q hq hn with h1 | ⟨b, i, v, hb, h1, h2⟩
    · rw [h1]; simp
    · rw [h1]
      simp only [Int.toNat_natCast]
      rw [if_neg (by omega), if_neg (by omega), h2, hr]
      split
      · rename_i e
        subst e
        rw [List.getElem?_append_left (List.getElem?_eq_some_iff.1 h2).1, h2]
      · rw [h2]

/-- how many pages are said to lie in a block -/
def Fl.cnt (s : Fl) (b : Nat) : Nat := ((List.range 8).filter fun p => decide ((s.loc[p]?).map (·.1) = some (b : Int))).length
def Fl.all (s : Fl) : Nat := ((List.range 8).filter fun p => decide (s.loc[p]? ≠ some (-1, 0))).length

theorem OkP.live_cnt {s : Fl} (h : Ok s) {b : Nat} : (s.live b).length = s.cnt b := by
  have hp : ((s.live b).map (·.1)).Perm ((List.range 8).filter fun p => decide ((s.loc[p]?).map (·.1) = some (b : Int))) := by
    have hnd : ((s.live b).map (·.1)).Nodup := Fl.live_nodup s b _
    rw [List.perm_ext_iff_of_nodup hnd (List.nodup_range.filter _)]
    intro q
    simp only [List.mem_map, List.mem_filter, List.mem_range, decide_eq_true_eq]
    constructor
    · rintro ⟨p, hp, rfl⟩
      obtain ⟨i, h1, h2⟩ := Fl.mem_live.1 hp
      exact ⟨h.page b p (List.mem_of_getElem? h1), by rw [h2]; rfl⟩
    · rintro ⟨hq, he⟩
      rcases h.lies q hq (by simp) with h1 | ⟨c, i, v, hc, h1, h2⟩
      · rw [h1] at he
        simp at he
      · rw [h1] at he
        simp at he
        have hcb : c = b := by omega
        subst hcb
        exact ⟨(q, v), Fl.mem_live.2 ⟨i, h2, h1⟩, rfl⟩
  have := hp.length_eq
  simpa [Fl.cnt] using this

theorem six_filters (f : Nat → Option Int) (l : List Nat) (h : ∀ p ∈ l, f p = some (-1) ∨ ∃ b : Nat, b < 6 ∧ f p = some (b : Int)) :
    (l.filter fun p => decide (f p = some ((0 : Nat) : Int))).length + (l.filter fun p => decide (f p = some ((1 : Nat) : Int))).length + (l.filter fun p => decide (f p = some ((2 : Nat) : Int))).length +
    (l.filter fun p => decide (f p = some ((3 : Nat) : Int))).length + (l.filter fun p => decide (f p = some ((4 : Nat) : Int))).length + (l.filter fun p => decide (f p = some ((5 : Nat) : Int))).length =
    (l.filter fun p => decide (f p ≠ some (-1))).length := by
  induction l with
  | nil => rfl
  | cons x l ih =>
    have ih := ih fun p hp => h p (List.mem_cons_of_mem _ hp)
    rcases h x (by simp) with h1 | ⟨b, hb, h1⟩
    · simp only [List.filter_cons, h1]
      simpa using ih
    · have hb' : b = 0 ∨ b = 1 ∨ b = 2 ∨ b = 3 ∨ b = 4 ∨ b = 5 := by omega
      rcases hb' with rfl | rfl | rfl | rfl | rfl | rfl <;> simp only [List.filter_cons, h1] <;> simp at ih ⊢ <;> omega

theorem OkP.all_live {s : Fl} (h : Ok s) : (s.live 0).length + (s.live 1).length + (s.live 2).length + (s.live 3).length + (s.live 4).length + (s.live 5).length = s.all := by
  rw [h.live_cnt, h.live_cnt, h.live_cnt, h.live_cnt, h.live_cnt, h.live_cnt]
  unfold Fl.cnt Fl.all
  rw [six_filters (fun p => (s.loc[p]?).map (·.1)) (List.range 8) ?_]
  · congr 1
    apply List.filter_congr
    intro p hp
    rcases h.lies p (List.mem_range.1 hp) (by simp) with h1 | ⟨b, i, v, hb, h1, -⟩
    · simp [h1]
    · simp [h1]
  · intro p hp
    rcases h.lies p (List.mem_range.1 hp) (by simp) with h1 | ⟨b, i, v, hb, h1, -⟩
    · exact .inl (by rw [h1]; rfl)
    · exact .inr ⟨b, hb, by rw [h1]; rfl⟩

theorem Fl.all_le (s : Fl) : s.all ≤ 8 := by
  unfold Fl.all
  exact Nat.le_trans (List.length_filter_le _ _) (by simp)

theorem Fl.mem_empties {s : Fl} {b : Nat} : b ∈ s.empties ↔ b < 6 ∧ s.row b = [] := by
  simp [Fl.empties, List.mem_filter]

theorem OkP.empties_ne {s : Fl} {P : Nat → Prop} (h : OkP s P) : s.empties ≠ [] := by
  obtain ⟨b, hb, -, he⟩ := h.spare
  exact fun e => by have := Fl.mem_empties.2 ⟨hb, he⟩; rw [e] at this; simp at this

theorem OkP.best_is {s : Fl} {P : Nat → Prop} (h : OkP s P) : s.best < 6 ∧ s.row s.best = [] := Fl.mem_empties.1 (pick_mem _ h.empties_ne)

/-- an active block that is full is left: what is next, where another one is empty -/
theorem OkP.turn_many {s : Fl} (h : Ok s) (hf : (s.row s.act).length = 4) (hm : 1 < s.empties.length) : Ok s.turn := by
  obtain ⟨hb, he⟩ := h.best_is
  refine ⟨h.blen, h.llen, h.elen, hb, h.small, h.page, h.lies, fun b hb' hne => ?_, ?_⟩
  · by_cases hba : b = s.act
    · subst hba; exact .inr hf
    · exact h.full b hb' hba
  · have hnd : s.empties.Nodup := List.nodup_range.filter _
    have hex : ∃ c ∈ s.empties, c ≠ s.best := by
      rcases hE : s.empties with _ | ⟨x, _ | ⟨y, l⟩⟩
      · rw [hE] at hm; simp at hm
      · rw [hE] at hm; simp at hm
      · rw [hE] at hnd
        simp at hnd
        by_cases hx : x = s.best
        · exact ⟨y, by simp, fun e => hnd.1.1 (by rw [hx, e])⟩
        · exact ⟨x, by simp, hx⟩
    obtain ⟨c, hc, hne⟩ := hex
    obtain ⟨hc6, hce⟩ := Fl.mem_empties.1 hc
    exact ⟨c, hc6, hne, hce⟩

theorem OkP.turn_one {s : Fl} (h : Ok s) (hf : (s.row s.act).length = 4) (hm : s.empties.length ≤ 1) :
    s.best < 6 ∧ s.row s.best = [] ∧ ∀ b, b < 6 → b ≠ s.best → (s.row b).length = 4 := by
  obtain ⟨hb, he⟩ := h.best_is
  refine ⟨hb, he, fun b hb' hne => ?_⟩
  by_cases hba : b = s.act
  · subst hba; exact hf
  · rcases h.full b hb' hba with h1 | h1
    · exfalso
      have m1 := Fl.mem_empties.2 ⟨hb', h1⟩
      have m2 := Fl.mem_empties.2 ⟨hb, he⟩
      rcases hE : s.empties with _ | ⟨x, _ | ⟨y, l⟩⟩
      · rw [hE] at m1; simp at m1
      · rw [hE] at m1 m2; simp at m1 m2; omega
      · rw [hE] at hm; simp at hm
    · exact h1

/-- the block that is erased: at most one of its pages lives -/
theorem OkP.worst_is {s : Fl} (h : Ok s) (hf : (s.row s.act).length = 4) (hm : s.empties.length ≤ 1) :
    s.turn.worst < 6 ∧ s.turn.worst ≠ s.best ∧ s.turn.worstTo 6 = (s.turn.worst : Int) ∧ (s.turn.live s.turn.worst).length ≤ 1 := by
  obtain ⟨hb, -, -⟩ := h.turn_one hf hm
  obtain ⟨h1, h2, h3, h4, h5⟩ := Fl.worstTo_bounds s.turn 6
  have h0 : 0 ≤ s.turn.worstTo 6 := by
    rcases Int.lt_or_le (s.turn.worstTo 6) 0 with h6 | h6
    · have a := h4 h6 0 (by omega)
      have b := h4 h6 1 (by omega)
      omega
    · exact h6
  have hw : s.turn.worstTo 6 = (s.turn.worst : Int) := by unfold Fl.worst; omega
  refine ⟨by omega, fun e => h3 h0 (by rw [hw, e]; rfl), hw, ?_⟩
  rw [hw] at h5
  simp only [Int.toNat_natCast] at h5
  have hsum := h.all_live
  have hall := s.all_le
  have hlive : ∀ b, s.turn.live b = s.live b := fun b => by
    have : ∀ k, s.turn.liveTo b k = s.liveTo b k := by
      intro k
      induction k with
      | zero => rfl
      | succ k ih => simp only [Fl.liveTo, ih]; rfl
    exact this _
  simp only [hlive] at h5 ⊢
  have ha : s.turn.act = s.best := rfl
  rw [ha] at h5
  have e0 := h5 0 (by omega)
  have e1 := h5 1 (by omega)
  have e2 := h5 2 (by omega)
  have e3 := h5 3 (by omega)
  have e4 := h5 4 (by omega)
  have e5 := h5 5 (by omega)
  have hb' : s.best = 0 ∨ s.best = 1 ∨ s.best = 2 ∨ s.best = 3 ∨ s.best = 4 ∨ s.best = 5 := by omega
  rcases hb' with hb' | hb' | hb' | hb' | hb' | hb' <;> rw [hb'] at e0 e1 e2 e3 e4 e5 <;> simp at e0 e1 e2 e3 e4 e5 <;> omega

theorem OkP.weaken {s : Fl} {P Q : Nat → Prop} (h : OkP s P) (hpq : ∀ p, p < 8 → P p → Q p) : OkP s Q :=
  ⟨h.blen, h.llen, h.elen, h.act, h.small, h.page, fun p hp hn => h.lies p hp fun hP => hn (hpq p hp hP), h.full, h.spare⟩

/-- the flash with its next block and the worst one erased -/
theorem OkP.erased {s : Fl} (h : Ok s) (hf : (s.row s.act).length = 4) (hm : s.empties.length ≤ 1) :
    OkP (s.turn.erase s.turn.worst) (fun p => ∃ v, (p, v) ∈ s.turn.live s.turn.worst) ∧ ((s.turn.erase s.turn.worst).row s.best).length = 0 ∧
    (∀ p, p < 8 → ¬ (∃ v, (p, v) ∈ s.turn.live s.turn.worst) → (s.turn.erase s.turn.worst).val p = s.val p) ∧ (∀ p ∈ s.turn.live s.turn.worst, p.1 < 8 ∧ s.val p.1 = p.2) := by
  obtain ⟨hb, he, hfull⟩ := h.turn_one hf hm
  obtain ⟨w6, wne, -, -⟩ := h.worst_is hf hm
  have ht : ∀ c, s.turn.row c = s.row c := fun c => rfl
  generalize hW : s.turn.worst = wo at *
  have hr : ∀ c, (s.turn.erase wo).row c = if wo = c then [] else s.row c := fun c => Fl.row_set s.turn wo c _ _ _ _ (by rw [show s.turn.blk = s.blk from rfl, h.blen]; exact w6)
  have hloc : (s.turn.erase wo).loc = s.loc := rfl
  refine ⟨⟨by simp [Fl.erase, Fl.turn, h.blen], h.llen, by simp [Fl.erase, Fl.turn, h.elen], hb, fun b => ?_, fun b q hq => ?_, fun q hq hn => ?_, fun b hb' hne => ?_, ⟨wo, w6, wne, by rw [hr]; simp⟩⟩, by rw [hr, if_neg wne, he]; rfl, fun q hq hn => ?_, fun p hp => ?_⟩
  · rw [hr]
    split
    · simp
    · exact h.small b
  · rw [hr] at hq
    split at hq
    · simp at hq
    · exact h.page b q hq
  · rw [hloc]
    rcases h.lies q hq (by simp) with h1 | ⟨b, i, v, hb', h1, h2⟩
    · exact .inl h1
    · refine .inr ⟨b, i, v, hb', h1, ?_⟩
      rw [hr, if_neg]
      · exact h2
      · rintro rfl
        exact hn ⟨v, Fl.mem_live.2 ⟨i, h2, h1⟩⟩
  · rw [hr]
    split
    · exact .inl rfl
    · exact .inr (hfull b hb' hne)
  · unfold Fl.val
    rw [hloc]
    rcases h.lies q hq (by simp) with h1 | ⟨b, i, v, hb', h1, h2⟩
    · rw [h1]; simp
    · rw [h1]
      simp only [Int.toNat_natCast]
      rw [if_neg (by omega), if_neg (by omega), hr, if_neg]
      rintro rfl
      exact hn ⟨v, Fl.mem_live.2 ⟨i, h2, h1⟩⟩
  · obtain ⟨i, h1, h2⟩ := Fl.mem_live.1 hp
    refine ⟨h.page wo p (List.mem_of_getElem? h1), ?_⟩
    unfold Fl.val
    have h2' : s.loc[p.1]? = some ((wo : Int), i) := h2
    have h1' : (s.row wo)[i]? = some p := h1
    rw [h2']
    simp only [Int.toNat_natCast]
    rw [if_neg (by omega), h1']
    rfl

/-- what is next -/
theorem OkP.next {s : Fl} (h : Ok s) (hf : (s.row s.act).length = 4) : Ok s.next ∧ (s.next.row s.next.act).length ≤ 1 ∧ ∀ p, p < 8 → s.next.val p = s.val p := by
  unfold Fl.next
  split
  · rename_i hm
    refine ⟨h.turn_many hf hm, ?_, fun p _ => rfl⟩
    show (s.row s.best).length ≤ 1
    rw [h.best_is.2]
    simp
  · rename_i hm
    obtain ⟨h1, h2, h3, h4⟩ := h.erased hf (by omega)
    obtain ⟨w6, wne, -, hl1⟩ := h.worst_is hf (by omega)
    generalize s.turn.worst = wo at *
    rcases hL : s.turn.live wo with _ | ⟨p, _ | ⟨q, l⟩⟩
    · rw [hL] at h1 h3
      simp only [List.foldl_nil]
      refine ⟨h1.weaken (by simp), ?_, fun p hp => h3 p hp (by simp)⟩
      show ((s.turn.erase wo).row s.best).length ≤ 1
      omega
    · rw [hL] at h1 h3 h4
      simp only [List.foldl_cons, List.foldl_nil]
      have hp8 := h4 p (by simp)
      have hd := h1.down hp8.1 (show ((s.turn.erase wo).row s.best).length < 4 by omega)
      have hv := h1.down_val hp8.1
      refine ⟨hd.weaken ?_, ?_, fun q hq => ?_⟩
      · rintro q hq ⟨⟨v, hv⟩, hne⟩
        simp at hv
        exact hne (by rw [← hv])
      · show (((s.turn.erase wo).down p).row s.best).length ≤ 1
        have hr : ((s.turn.erase wo).down p).row s.best = (s.turn.erase wo).row s.best ++ [p] := by
          have := Fl.row_set (s.turn.erase wo) s.best s.best ((s.turn.erase wo).row s.best ++ [p]) ((s.turn.erase wo).down p).loc (s.turn.erase wo).er s.best (by rw [h1.blen]; exact h1.act)
          rw [if_pos rfl] at this
          exact this
        rw [hr, List.length_append, h2]
        simp
      · by_cases hqp : q = p.1
        · subst hqp; rw [hv.1, hp8.2]
        · rw [hv.2 q hq ?_ hqp, h3 q hq ?_]
          · rintro ⟨v, hv⟩; simp at hv; exact hqp (by rw [← hv])
          · rintro ⟨v, hv⟩; simp at hv; exact hqp (by rw [← hv])
    · rw [hL] at hl1; simp at hl1

theorem OkP.write {s : Fl} (h : Ok s) {p : Page} (hp : p.1 < 8) : Ok (s.write p) ∧ (s.write p).val p.1 = p.2 ∧ ∀ q, q < 8 → q ≠ p.1 → (s.write p).val q = s.val q := by
  unfold Fl.write
  split
  · rename_i hf
    obtain ⟨h1, h2, h3⟩ := h.next hf
    obtain ⟨v1, v2⟩ := h1.down_val hp
    exact ⟨(h1.down hp (by omega)).weaken (by simp), v1, fun q hq hne => by rw [v2 q hq (by simp) hne, h3 q hq]⟩
  · rename_i hf
    obtain ⟨v1, v2⟩ := h.down_val hp
    exact ⟨(h.down hp (by have := h.small s.act; omega)).weaken (by simp), v1, fun q hq hne => v2 q hq (by simp) hne⟩

theorem OkP.down_no {s : Fl} {P : Nat → Prop} (h : OkP s P) {p : Page} (hp : p.1 < 8) (q : Nat) : (s.down p).loc[q]? = some (-1, 0) ↔ q ≠ p.1 ∧ s.loc[q]? = some (-1, 0) := by
  simp only [Fl.down]
  by_cases hq : q = p.1
  · subst hq
    simp [h.llen, hp]
  · rw [List.getElem?_set_ne (by omega)]
    simp [hq]

theorem OkP.next_no {s : Fl} (h : Ok s) (hf : (s.row s.act).length = 4) (q : Nat) : s.next.loc[q]? = some (-1, 0) ↔ s.loc[q]? = some (-1, 0) := by
  unfold Fl.next
  split
  · exact Iff.rfl
  · rename_i hm
    obtain ⟨h1, h2, h3, h4⟩ := h.erased hf (by omega)
    obtain ⟨w6, wne, -, hl1⟩ := h.worst_is hf (by omega)
    generalize s.turn.worst = wo at *
    rcases hL : s.turn.live wo with _ | ⟨p, _ | ⟨q', l⟩⟩
    · exact Iff.rfl
    · rw [hL] at h4
      simp only [List.foldl_cons, List.foldl_nil]
      rw [h1.down_no (h4 p (by simp)).1]
      show _ ∧ s.loc[q]? = _ ↔ _
      constructor
      · exact fun h => h.2
      · intro h0
        refine ⟨?_, h0⟩
        rintro rfl
        obtain ⟨i, -, h5⟩ := Fl.mem_live.1 (show p ∈ s.turn.live wo by rw [hL]; simp)
        rw [show s.turn.loc = s.loc from rfl, h0] at h5
        simp at h5
    · rw [hL] at hl1; simp at hl1

theorem OkP.write_no {s : Fl} (h : Ok s) {p : Page} (hp : p.1 < 8) (q : Nat) : (s.write p).loc[q]? = some (-1, 0) ↔ q ≠ p.1 ∧ s.loc[q]? = some (-1, 0) := by
  unfold Fl.write
  split
  · rename_i hf
    rw [(h.next hf).1.down_no hp, h.next_no hf]
  · exact h.down_no hp q

/-- how many pages are written in all -/
def Fl.tot (s : Fl) : Nat := (s.blk.map List.length).sum

theorem sum_set (l : List Nat) {i x y : Nat} (h : l[i]? = some y) : (l.set i x).sum + y = l.sum + x := by
  induction l generalizing i with
  | nil => simp at h
  | cons a l ih =>
    rcases i with _ | i
    · simp at h; subst h; simp; omega
    · simp at h
      have := ih h
      simp
      omega

theorem Fl.tot_set (s : Fl) {b : Nat} (hb : b < s.blk.length) (r : List Page) (l : List (Int × Nat)) (e : List Nat) (a : Nat) : (Fl.mk (s.blk.set b r) l e a).tot + (s.row b).length = s.tot + r.length := by
  unfold Fl.tot
  simp only [List.map_set]
  refine sum_set _ ?_
  rw [List.getElem?_map, Fl.row, List.getElem?_eq_getElem hb]
  rfl

theorem OkP.down_tot {s : Fl} {P : Nat → Prop} (h : OkP s P) (p : Page) : (s.down p).tot = s.tot + 1 ∧ (s.down p).er = s.er := by
  have := Fl.tot_set s (b := s.act) (by rw [h.blen]; exact h.act) (s.row s.act ++ [p]) (s.down p).loc s.er s.act
  refine ⟨?_, rfl⟩
  show (Fl.mk _ _ _ _).tot = _
  simp at this
  simp only [Fl.down] at this ⊢
  omega

theorem OkP.next_tot {s : Fl} (h : Ok s) (hf : (s.row s.act).length = 4) : s.tot + 4 * s.er.sum ≤ s.next.tot + 4 * s.next.er.sum ∧ s.er.sum ≤ s.next.er.sum ∧ s.next.tot + 4 * s.next.er.sum + s.er.sum ≤ s.tot + 4 * s.er.sum + s.next.er.sum := by
  unfold Fl.next
  split
  · exact ⟨Nat.le_refl _, Nat.le_refl _, Nat.le_refl _⟩
  · rename_i hm
    obtain ⟨h1, h2, h3, h4⟩ := h.erased hf (by omega)
    obtain ⟨hb, he, hfull⟩ := h.turn_one hf (by omega)
    obtain ⟨w6, wne, -, hl1⟩ := h.worst_is hf (by omega)
    have hf4 := hfull _ w6 wne
    generalize s.turn.worst = wo at *
    have ht : (s.turn.erase wo).tot + 4 = s.tot := by
      have := Fl.tot_set s.turn (b := wo) (by show wo < s.blk.length; rw [h.blen]; exact w6) [] s.loc (s.er.set wo (s.times wo + 1)) s.best
      rw [show (s.turn.row wo).length = 4 from hf4] at this
      exact this
    have het : (s.turn.erase wo).er.sum = s.er.sum + 1 := by
      have := sum_set s.er (i := wo) (x := s.times wo + 1) (y := s.times wo) (by unfold Fl.times; rw [List.getElem?_eq_getElem (by rw [h.elen]; exact w6)]; rfl)
      show (s.er.set wo (s.times wo + 1)).sum = _
      omega
    rcases hL : s.turn.live wo with _ | ⟨p, _ | ⟨q', l⟩⟩
    · simp only [List.foldl_nil]
      omega
    · simp only [List.foldl_cons, List.foldl_nil]
      have hd := h1.down_tot p
      rw [hd.1, hd.2]
      omega
    · rw [hL] at hl1; simp at hl1

theorem OkP.write_tot {s : Fl} (h : Ok s) (p : Page) : s.tot + 4 * s.er.sum + 1 ≤ (s.write p).tot + 4 * (s.write p).er.sum ∧ s.er.sum ≤ (s.write p).er.sum ∧ (s.write p).tot + 4 * (s.write p).er.sum + s.er.sum ≤ s.tot + 4 * s.er.sum + 1 + (s.write p).er.sum := by
  unfold Fl.write
  split
  · rename_i hf
    have h1 := h.next_tot hf
    have h2 := (h.next hf).1.down_tot p
    rw [h2.1, h2.2]
    omega
  · have h2 := h.down_tot p
    rw [h2.1, h2.2]
    omega

end Go.Proofs.YtegibgflhhdddaaDoor.Ftl
