/- The pieces of a text by the blocks of an old one: plain lists. -/
import Derived.Lib.Hide
namespace Go.Proofs.YtglcljeeigilnaaDoor.Delta

structure Pc where
  pos : Int
  size : Int
  own : ByteArray

def blk (o : ByteArray) (z j : Nat) : ByteArray := o.extract (j * z) (j * z + z)

def Hit (o : ByteArray) (z : Nat) (s : ByteArray) (n : Nat) : Prop := ∃ j, n = j * z ∧ j * z + z ≤ o.size ∧ blk o z j = s ∧ ∀ i, i < j → blk o z i ≠ s
def Miss (o : ByteArray) (z : Nat) (s : ByteArray) : Prop := ∀ j, j * z + z ≤ o.size → blk o z j ≠ s

theorem Hit.one {o : ByteArray} {z : Nat} {s : ByteArray} {n m : Nat} (h : Hit o z s n) (k : Hit o z s m) : n = m := by
  obtain ⟨a, rfl, -, h2, h3⟩ := h
  obtain ⟨b, rfl, -, k2, k3⟩ := k
  rcases Nat.lt_trichotomy a b with h | h | h
  · exact absurd h2 (k3 a h)
  · rw [h]
  · exact absurd k2 (h3 b h)
theorem Hit.not_miss {o : ByteArray} {z : Nat} {s : ByteArray} {n : Nat} (h : Hit o z s n) (k : Miss o z s) : False := by
  obtain ⟨a, -, h1, h2, -⟩ := h
  exact k a h1 h2

def push : List Pc → ByteArray → List Pc
  | [], c => [⟨0, 0, c⟩]
  | [p], c => if p.size = 0 then [⟨p.pos, p.size, p.own ++ c⟩] else [p, ⟨0, 0, c⟩]
  | p :: q :: l, c => p :: push (q :: l) c

theorem push_own (l : List Pc) (p : Pc) (c : ByteArray) (h : p.size = 0) : push (l ++ [p]) c = l ++ [⟨p.pos, p.size, p.own ++ c⟩] := by
  induction l with
  | nil => simp [push, h]
  | cons a l ih =>
    cases l with
    | nil => simpa [push] using ih
    | cons b l => simpa [push] using ih
theorem push_new (l : List Pc) (p : Pc) (c : ByteArray) (h : p.size ≠ 0) : push (l ++ [p]) c = l ++ [p, ⟨0, 0, c⟩] := by
  induction l with
  | nil => simp [push, h]
  | cons a l ih =>
    cases l with
    | nil => simpa [push] using ih
    | cons b l => simpa [push] using ih

theorem snoc_cases {α : Type} (l : List α) : l = [] ∨ ∃ a x, l = a ++ [x] := by
  rcases List.eq_nil_or_concat l with h | ⟨a, x, h⟩
  · exact .inl h
  · exact .inr ⟨a, x, by simpa using h⟩

abbrev S := Nat × List Pc

inductive Step (o t : ByteArray) (z : Nat) : S → S → Prop
  | hit {i : Nat} {out : List Pc} {n : Nat} : i + z ≤ t.size → Hit o z (t.extract i (i + z)) n → Step o t z (i, out) (i + z, out ++ [⟨n, z, ByteArray.empty⟩])
  | own {i : Nat} {out : List Pc} : i < t.size → (i + z ≤ t.size → Miss o z (t.extract i (i + z))) → Step o t z (i, out) (i + 1, push out (t.extract i (i + 1)))

inductive Reach (o t : ByteArray) (z : Nat) : S → Prop
  | start : Reach o t z (0, [])
  | step {a b : S} : Reach o t z a → Step o t z a b → Reach o t z b

def txt (o : ByteArray) (p : Pc) : ByteArray := (if p.size = 0 then ByteArray.empty else o.extract p.pos.toNat (p.pos.toNat + p.size.toNat)) ++ p.own
def joined (o : ByteArray) (l : List Pc) : ByteArray := l.foldl (fun a p => a ++ txt o p) ByteArray.empty
def ownsum (l : List Pc) : Nat := (l.map fun p => p.own.size).sum
def Good (o : ByteArray) (p : Pc) : Prop := (p.size = 0 ∧ p.pos = 0) ∨ (p.own = ByteArray.empty ∧ 0 ≤ p.pos ∧ 1 ≤ p.size ∧ p.pos + p.size ≤ o.size)

theorem joined_snoc (o : ByteArray) (l : List Pc) (p : Pc) : joined o (l ++ [p]) = joined o l ++ txt o p := by simp [joined]
theorem ownsum_snoc (l : List Pc) (p : Pc) : ownsum (l ++ [p]) = ownsum l + p.own.size := by simp [ownsum]

theorem push_joined (o : ByteArray) (l : List Pc) (c : ByteArray) : joined o (push l c) = joined o l ++ c := by
  rcases snoc_cases l with rfl | ⟨a, x, rfl⟩
  · simp [push, joined, txt]
  · by_cases h : x.size = 0
    · rw [push_own _ _ _ h, joined_snoc, joined_snoc]
      simp [txt, h, ByteArray.append_assoc]
    · rw [push_new _ _ _ h, show a ++ [x, (⟨0, 0, c⟩ : Pc)] = (a ++ [x]) ++ [⟨0, 0, c⟩] by simp, joined_snoc]
      simp [txt]
theorem push_ownsum (l : List Pc) (c : ByteArray) : ownsum (push l c) = ownsum l + c.size := by
  rcases snoc_cases l with rfl | ⟨a, x, rfl⟩
  · simp [push, ownsum]
  · by_cases h : x.size = 0
    · rw [push_own _ _ _ h, ownsum_snoc, ownsum_snoc]
      simp [Nat.add_assoc]
    · rw [push_new _ _ _ h, show a ++ [x, (⟨0, 0, c⟩ : Pc)] = (a ++ [x]) ++ [⟨0, 0, c⟩] by simp, ownsum_snoc]
theorem push_length (l : List Pc) (c : ByteArray) : l.length ≤ (push l c).length ∧ (push l c).length ≤ l.length + 1 := by
  rcases snoc_cases l with rfl | ⟨a, x, rfl⟩
  · simp [push]
  · by_cases h : x.size = 0
    · rw [push_own _ _ _ h]; simp
    · rw [push_new _ _ _ h]; simp
theorem push_sizes (l : List Pc) (c : ByteArray) {k : Nat} {p : Pc} (h : l[k]? = some p) : ∃ q, (push l c)[k]? = some q ∧ q.size = p.size := by
  rcases snoc_cases l with rfl | ⟨a, x, rfl⟩
  · simp at h
  · by_cases hx : x.size = 0
    · rw [push_own _ _ _ hx]
      by_cases hk : k < a.length
      · rw [List.getElem?_append_left hk] at h ⊢
        exact ⟨p, h, rfl⟩
      · rw [List.getElem?_append_right (by omega)] at h ⊢
        rcases Nat.eq_zero_or_pos (k - a.length) with h0 | h0
        · rw [h0] at h ⊢
          simp at h
          subst h
          exact ⟨_, rfl, rfl⟩
        · rw [List.getElem?_eq_none (by simp; omega)] at h
          cases h
    · rw [push_new _ _ _ hx, show a ++ [x, (⟨0, 0, c⟩ : Pc)] = (a ++ [x]) ++ [⟨0, 0, c⟩] by simp]
      exact ⟨p, by rw [List.getElem?_append_left (List.getElem?_eq_some_iff.1 h).1]; exact h, rfl⟩
theorem push_good (o : ByteArray) (l : List Pc) (c : ByteArray) (h : ∀ p ∈ l, Good o p) : ∀ p ∈ push l c, Good o p := by
  rcases snoc_cases l with rfl | ⟨a, x, rfl⟩
  · intro p hp
    simp [push] at hp
    subst hp
    exact .inl ⟨rfl, rfl⟩
  · by_cases hx : x.size = 0
    · rw [push_own _ _ _ hx]
      intro p hp
      simp at hp
      rcases hp with hp | rfl
      · exact h p (by simp [hp])
      · rcases h x (by simp) with g | g
        · exact .inl g
        · omega
    · rw [push_new _ _ _ hx]
      intro p hp
      simp at hp
      rcases hp with hp | rfl | rfl
      · exact h p (by simp [hp])
      · exact h p (by simp)
      · exact .inl ⟨rfl, rfl⟩

theorem ext_join (s : ByteArray) {a b : Nat} (h : a ≤ b) : s.extract 0 a ++ s.extract a b = s.extract 0 b := by
  apply ByteArray.ext
  rw [ByteArray.data_append]
  simp [Nat.max_eq_right h]
theorem ext_size (s : ByteArray) (a b : Nat) (h : b ≤ s.size) : (s.extract a b).size = b - a := by
  rw [ByteArray.size_extract]; omega
theorem ext_all (s : ByteArray) : s.extract 0 s.size = s := by
  apply ByteArray.ext
  simp

structure Back (o t : ByteArray) (i : Nat) (out : List Pc) : Prop where
  le : i ≤ t.size
  good : ∀ p ∈ out, Good o p
  join : joined o out = t.extract 0 i
  own : ownsum out ≤ i
  len : out.length ≤ i

theorem Reach.back {o t : ByteArray} {z : Nat} (hz : 1 ≤ z) {s : S} (h : Reach o t z s) : Back o t s.1 s.2 := by
  induction h with
  | start => exact ⟨Nat.zero_le _, by simp, by simp [joined], by simp [ownsum], by simp⟩
  | step _ hs ih =>
    obtain ⟨h1, h2, h3, h4, h5⟩ := ih
    cases hs with
    | hit hi hh =>
      obtain ⟨j, rfl, hj, hb, -⟩ := hh
      refine ⟨hi, ?_, ?_, ?_, ?_⟩
      · intro p hp
        simp at hp
        rcases hp with hp | rfl
        · exact h2 p hp
        · exact .inr ⟨rfl, Int.natCast_nonneg _, by show (1 : Int) ≤ (z : Int); omega, by show ((j * z : Nat) : Int) + (z : Int) ≤ _; omega⟩
      · show joined o (_ ++ [_]) = _
        rw [joined_snoc, h3]
        have e : txt o ⟨(j * z : Nat), z, ByteArray.empty⟩ = blk o z j := by
          unfold txt blk
          rw [if_neg (show ¬ ((z : Int) = 0) by omega)]
          show o.extract (((j * z : Nat) : Int)).toNat _ ++ _ = _
          rw [Int.toNat_natCast, Int.toNat_natCast, ByteArray.append_empty]
        rw [e, hb, ext_join _ (by omega)]
      · show ownsum (_ ++ [_]) ≤ _
        rw [ownsum_snoc]
        simp
        simp at h4
        omega
      · simp at h5 ⊢
        omega
    | @own i out hi hh =>
      refine ⟨hi, push_good o _ _ h2, ?_, ?_, ?_⟩
      · rw [push_joined, h3, ext_join _ (by omega)]
      · rw [push_ownsum, ext_size _ _ _ (by omega)]
        simp at h4 ⊢
        omega
      · have := (push_length out (t.extract i (i + 1))).2
        simp at h5 ⊢
        omega

/-- a text by its own blocks -/
theorem Reach.same {o : ByteArray} {z : Nat} (hz : 1 ≤ z) {s : S} (h : Reach o o z s) :
    (∃ k, s.1 = k * z ∧ k * z ≤ o.size ∧ ownsum s.2 = 0) ∨ (o.size / z * z ≤ s.1 ∧ ownsum s.2 = s.1 - o.size / z * z) := by
  induction h with
  | start => exact .inl ⟨0, by simp, by simp, by simp [ownsum]⟩
  | step hr hs ih =>
    have hle := (hr.back hz).le
    have hd : o.size / z * z ≤ o.size ∧ o.size < o.size / z * z + z := ⟨Nat.div_mul_le_self _ _, by have := Nat.div_add_mod o.size z; have := Nat.mod_lt o.size (show z > 0 by omega); rw [Nat.mul_comm]; omega⟩
    cases hs with
    | @hit i out n hi hh =>
      simp only at ih hle ⊢
      rcases ih with ⟨k, rfl, hk, hs⟩ | ⟨h1, h2⟩
      · exact .inl ⟨k + 1, by rw [Nat.succ_mul], by rw [Nat.succ_mul]; exact hi, by rw [ownsum_snoc, hs]; rfl⟩
      · omega
    | @own i out hi hh =>
      simp only at ih hle ⊢
      have hsz : (o.extract i (i + 1)).size = 1 := by rw [ext_size _ _ _ (by omega)]; omega
      rcases ih with ⟨k, rfl, hk, hs⟩ | ⟨h1, h2⟩
      · by_cases hb : k * z + z ≤ o.size
        · exact absurd rfl (hh hb k hb)
        · have hq : k = o.size / z := by
            refine Nat.le_antisymm ?_ ?_
            · exact (Nat.le_div_iff_mul_le (by omega)).2 hk
            · rcases Nat.lt_or_ge k (o.size / z) with h | h
              · have := Nat.mul_le_mul_right z (show k + 1 ≤ o.size / z by omega)
                rw [Nat.succ_mul] at this
                omega
              · exact h
          subst hq
          exact .inr ⟨by omega, by rw [push_ownsum, hs, hsz]; omega⟩
      · exact .inr ⟨by omega, by rw [push_ownsum, h2, hsz]; omega⟩

theorem Reach.same_end {o : ByteArray} {z : Nat} (hz : 1 ≤ z) {out : List Pc} (h : Reach o o z (o.size, out)) : ownsum out = o.size % z := by
  have hd := Nat.div_add_mod o.size z
  rw [Nat.mul_comm] at hd
  rcases h.same hz with ⟨k, h1, h2, h3⟩ | ⟨h1, h2⟩
  · simp only at h1 h3
    rw [h3, h1, Nat.mul_mod_left]
  · simp only at h1 h2
    omega

/-- a text of many blocks of the old one -/
def Blocky (o : ByteArray) (z : Nat) (t : ByteArray) (many : Nat) : Prop := t.size = many * z ∧ ∀ k, k < many → ∃ j, j * z + z ≤ o.size ∧ t.extract (k * z) (k * z + z) = blk o z j

theorem Blocky.nil (o : ByteArray) (z : Nat) : Blocky o z ByteArray.empty 0 := ⟨by simp, fun k hk => by omega⟩
theorem Blocky.more {o t : ByteArray} {z many j : Nat} (h : Blocky o z t many) (hj : j * z + z ≤ o.size) : Blocky o z (t ++ o.extract (j * z) (j * z + z)) (many + 1) := by
  obtain ⟨h1, h2⟩ := h
  have hs : (o.extract (j * z) (j * z + z)).size = z := by rw [ext_size _ _ _ hj]; omega
  refine ⟨by rw [ByteArray.size_append, hs, h1, Nat.succ_mul], fun k hk => ?_⟩
  by_cases hkm : k < many
  · obtain ⟨i, hi, he⟩ := h2 k hkm
    refine ⟨i, hi, ?_⟩
    rw [← he]
    have hle : k * z + z ≤ many * z := by have := Nat.mul_le_mul_right z (show k + 1 ≤ many by omega); rwa [Nat.succ_mul] at this
    rw [ByteArray.extract_append, h1, show k * z + z - many * z = 0 by omega, show k * z - many * z = 0 by omega]
    simp
  · obtain rfl : k = many := by omega
    refine ⟨j, hj, ?_⟩
    unfold blk
    exact ByteArray.extract_append_eq_right h1.symm (by rw [h1, hs])

theorem Reach.blocks {o t : ByteArray} {z many : Nat} (hb : Blocky o z t many) {s : S} (h : Reach o t z s) : s.1 = s.2.length * z ∧ ownsum s.2 = 0 := by
  induction h with
  | start => exact ⟨by simp, by simp [ownsum]⟩
  | step hr hs ih =>
    cases hs with
    | @hit i out n hi hh =>
      simp only at ih ⊢
      exact ⟨by rw [ih.1]; simp [Nat.succ_mul], by rw [ownsum_snoc, ih.2]; rfl⟩
    | @own i out hi hh =>
      simp only at ih ⊢
      obtain ⟨rfl, -⟩ := ih
      rw [hb.1] at hi hh
      have hk : out.length < many := Nat.lt_of_mul_lt_mul_right hi
      have hle : out.length * z + z ≤ many * z := by have := Nat.mul_le_mul_right z (show out.length + 1 ≤ many by omega); rwa [Nat.succ_mul] at this
      obtain ⟨j, hj, he⟩ := hb.2 _ hk
      exact absurd he.symm (hh hle j hj)
theorem Reach.blocks_end {o t : ByteArray} {z many : Nat} (hz : 1 ≤ z) (hb : Blocky o z t many) {out : List Pc} (h : Reach o t z (t.size, out)) : out.length = many ∧ ownsum out = 0 := by
  obtain ⟨h1, h2⟩ := h.blocks hb
  simp only at h1 h2
  rw [hb.1] at h1
  exact ⟨(Nat.eq_of_mul_eq_mul_right (by omega) h1).symm, h2⟩

/-- a text that begins as the old one does -/
theorem Reach.ahead {o t : ByteArray} {z q : Nat} (hq : q * z ≤ o.size) (hqt : q * z ≤ t.size) (he : ∀ k, k < q → t.extract (k * z) (k * z + z) = blk o z k) {s : S} (h : Reach o t z s) :
    (s.2.length ≤ q ∧ s.1 = s.2.length * z ∧ ∀ p ∈ s.2, p.size = z) ∨ (q ≤ s.2.length ∧ ∀ k, k < q → ∃ p, s.2[k]? = some p ∧ p.size = z) := by
  induction h with
  | start => exact .inl ⟨by simp, by simp, by simp⟩
  | step hr hs ih =>
    cases hs with
    | @hit i out n hi hh =>
      simp only at ih ⊢
      rcases ih with ⟨h1, rfl, h3⟩ | ⟨h1, h2⟩
      · by_cases hl : out.length < q
        · refine .inl ⟨by simp; omega, by simp [Nat.succ_mul], fun p hp => ?_⟩
          simp at hp
          rcases hp with hp | rfl
          · exact h3 p hp
          · rfl
        · refine .inr ⟨by simp; omega, fun k hk => ?_⟩
          have hk' : k < out.length := by omega
          exact ⟨out[k], by rw [List.getElem?_append_left hk', List.getElem?_eq_getElem hk'], h3 _ (List.getElem_mem hk')⟩
      · refine .inr ⟨by simp; omega, fun k hk => ?_⟩
        obtain ⟨p, hp, hz⟩ := h2 k hk
        exact ⟨p, by rw [List.getElem?_append_left (by omega)]; exact hp, hz⟩
    | @own i out hi hh =>
      simp only at ih ⊢
      rcases ih with ⟨h1, rfl, h3⟩ | ⟨h1, h2⟩
      · by_cases hl : out.length < q
        · have hle : out.length * z + z ≤ q * z := by have := Nat.mul_le_mul_right z (show out.length + 1 ≤ q by omega); rwa [Nat.succ_mul] at this
          exact absurd (he _ hl).symm (hh (by omega) _ (by omega))
        · have hle := (push_length out (t.extract (out.length * z) (out.length * z + 1))).1
          refine .inr ⟨by omega, fun k hk => ?_⟩
          have hk' : k < out.length := by omega
          obtain ⟨p, hp, hz⟩ := push_sizes out (t.extract (out.length * z) (out.length * z + 1)) (List.getElem?_eq_getElem hk')
          exact ⟨p, hp, by rw [hz]; exact h3 _ (List.getElem_mem hk')⟩
      · have hle := (push_length out (t.extract i (i + 1))).1
        refine .inr ⟨by omega, fun k hk => ?_⟩
        obtain ⟨p, hp, hz⟩ := h2 k hk
        obtain ⟨p', hp', hz'⟩ := push_sizes out (t.extract i (i + 1)) hp
        exact ⟨p', hp', by rw [hz']; exact hz⟩
theorem Reach.ahead_end {o t : ByteArray} {z q : Nat} (hz : 1 ≤ z) (hq : q * z ≤ o.size) (hqt : q * z ≤ t.size) (he : ∀ k, k < q → t.extract (k * z) (k * z + z) = blk o z k) {out : List Pc} (h : Reach o t z (t.size, out)) :
    q ≤ out.length ∧ ∀ k, k < q → ∃ p, out[k]? = some p ∧ p.size = z := by
  rcases h.ahead hq hqt he with ⟨h1, h2, h3⟩ | h1
  · simp only at h1 h2 h3
    have hl : q ≤ out.length := Nat.le_of_mul_le_mul_right (by omega) (show 0 < z by omega)
    exact ⟨hl, fun k hk => ⟨out[k], List.getElem?_eq_getElem _, h3 _ (List.getElem_mem (by omega))⟩⟩
  · exact h1

inductive Run (o t : ByteArray) (z : Nat) : S → S → Prop
  | refl (a : S) : Run o t z a a
  | head {a b c : S} : Step o t z a b → Run o t z b c → Run o t z a c
theorem Run.snoc {o t : ByteArray} {z : Nat} {a b c : S} (h : Run o t z a b) (k : Step o t z b c) : Run o t z a c := by
  induction h with
  | refl => exact .head k (.refl _)
  | head s _ ih => exact .head s (ih k)
theorem Reach.run {o t : ByteArray} {z : Nat} {s : S} (h : Reach o t z s) : Run o t z (0, []) s := by
  induction h with
  | start => exact .refl _
  | step _ hs ih => exact ih.snoc hs
theorem Step.det {o t : ByteArray} {z : Nat} {a b c : S} (h : Step o t z a b) (k : Step o t z a c) : b = c := by
  cases h with
  | hit h1 h2 =>
    cases k with
    | hit k1 k2 => rw [h2.one k2]
    | own k1 k2 => exact (h2.not_miss (k2 h1)).elim
  | own h1 h2 =>
    cases k with
    | hit k1 k2 => exact (k2.not_miss (h2 k1)).elim
    | own k1 k2 => rfl
theorem Step.lt {o t : ByteArray} {z : Nat} (hz : 1 ≤ z) {a b : S} (h : Step o t z a b) : a.1 < t.size := by
  cases h with
  | hit h1 h2 => simp only; omega
  | own h1 h2 => exact h1
theorem Run.unique {o t : ByteArray} {z : Nat} (hz : 1 ≤ z) {a b c : S} (h : Run o t z a b) (k : Run o t z a c) (hb : t.size ≤ b.1) (hc : t.size ≤ c.1) : b = c := by
  induction h with
  | refl a =>
    cases k with
    | refl => rfl
    | head s _ => have := s.lt hz; omega
  | head s _ ih =>
    cases k with
    | refl => have := s.lt hz; omega
    | head s' k' =>
      have e := s.det s'
      subst e
      exact ih k' hb
theorem Reach.unique {o t : ByteArray} {z : Nat} (hz : 1 ≤ z) {x y : List Pc} (h : Reach o t z (t.size, x)) (k : Reach o t z (t.size, y)) : x = y := by
  have := h.run.unique hz k.run (Nat.le_refl _) (Nat.le_refl _)
  simpa using this

/-- the closed facts -/
def abcd : ByteArray := ⟨#[97, 98, 99, 100]⟩
def xcd : ByteArray := ⟨#[120, 99, 100]⟩
def bx : ByteArray := ⟨#[120]⟩
def ab : ByteArray := ⟨#[97, 98]⟩
theorem xcd_size : xcd.size = 3 := rfl
theorem fact_reach {out : List Pc} (h : Reach abcd xcd 2 (xcd.size, out)) : out = [⟨0, 0, bx⟩, ⟨2, 2, ByteArray.empty⟩] := by
  refine h.unique (by omega) (show Reach abcd xcd 2 (3, _) from ?_)
  have s1 : Step abcd xcd 2 (0, []) (0 + 1, push [] (xcd.extract 0 (0 + 1))) := .own (by decide) (fun _ j hj => by
    have hj' : j * 2 + 2 ≤ 4 := hj
    have : j = 0 ∨ j = 1 := by omega
    rcases this with rfl | rfl <;> decide)
  have s2 : Step abcd xcd 2 (1, [⟨0, 0, bx⟩]) (1 + 2, [⟨0, 0, bx⟩] ++ [⟨(2 : Nat), (2 : Nat), ByteArray.empty⟩]) := .hit (by decide) ⟨1, by omega, by decide, by decide, fun i hi => by
    obtain rfl : i = 0 := by omega
    decide⟩
  exact .step (.step .start s1) s2
theorem ab_reach {out : List Pc} (h : Reach ab ab 2 (ab.size, out)) : out = [⟨0, 2, ByteArray.empty⟩] := by
  refine h.unique (by omega) (show Reach ab ab 2 (2, _) from ?_)
  have s2 : Step ab ab 2 (0, []) (0 + 2, [] ++ [⟨(0 : Nat), (2 : Nat), ByteArray.empty⟩]) := .hit (by decide) ⟨0, by omega, by decide, by decide, fun i hi => by omega⟩
  exact .step .start s2

end Go.Proofs.YtglcljeeigilnaaDoor.Delta
