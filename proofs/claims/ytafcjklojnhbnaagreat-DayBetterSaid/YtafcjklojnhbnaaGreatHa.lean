/- Heaps of things by their worth, in plain Lean: no program in sight. -/
import Derived.WalkKit
namespace Go.Proofs.YtafcjklojnhbnaaGreat.Hp

/-- A strict order in which two things of which neither is less are the same. -/
structure Str {α : Type} (lt : α → α → Bool) : Prop where
  irr : ∀ a, lt a a = false
  tr : ∀ a b c, lt a b = true → lt b c = true → lt a c = true
  tot : ∀ a b, lt a b = false → lt b a = false → a = b

section
variable {α : Type}

/-- By worth, then by number. -/
def il [DecidableEq α] (lt : α → α → Bool) (a b : Int × α) : Bool := if a.2 = b.2 then decide (a.1 < b.1) else lt a.2 b.2

theorem il_str [DecidableEq α] {lt : α → α → Bool} (h : Str lt) : Str (il lt) := by
  refine ⟨fun a => by simp [il], fun a b c h1 h2 => ?_, fun a b h1 h2 => ?_⟩
  · unfold il at *
    by_cases e1 : a.2 = b.2
    · rw [if_pos e1] at h1
      by_cases e2 : b.2 = c.2
      · rw [if_pos e2] at h2; rw [if_pos (e1.trans e2)]; simp at *; omega
      · rw [if_neg e2] at h2; rw [if_neg (by rw [e1]; exact e2), e1]; exact h2
    · rw [if_neg e1] at h1
      by_cases e2 : b.2 = c.2
      · rw [if_neg (by rw [← e2]; exact e1), ← e2]; exact h1
      · rw [if_neg e2] at h2
        have := h.tr _ _ _ h1 h2
        by_cases e3 : a.2 = c.2
        · rw [e3, h.irr] at this; cases this
        · rw [if_neg e3]; exact this
  · unfold il at *
    by_cases e1 : a.2 = b.2
    · rw [if_pos e1] at h1; rw [if_pos e1.symm] at h2
      simp at h1 h2
      exact Prod.ext (by omega) e1
    · rw [if_neg e1] at h1; rw [if_neg (fun e => e1 e.symm)] at h2
      exact absurd (h.tot _ _ h1 h2) e1

abbrev Its (α : Type) := List (Int × α)

def ata [Inhabited α] (l : Its α) (i : Nat) : Int × α := l.getD i default

def swp [Inhabited α] (l : Its α) (i j : Nat) : Its α := (l.set i (ata l j)).set j (ata l i)

theorem swp_len [Inhabited α] (l : Its α) (i j : Nat) : (swp l i j).length = l.length := by simp [swp]

theorem ata_set [Inhabited α] (m : Its α) (a b : Nat) (x : Int × α) (ha : a < m.length) : ata (m.set a x) b = if b = a then x else ata m b := by
  unfold ata
  rw [List.getD_eq_getElem?_getD, List.getD_eq_getElem?_getD, List.getElem?_set]
  by_cases e : a = b
  · subst e; simp [ha]
  · rw [if_neg e, if_neg (fun h => e h.symm)]

theorem ata_swp [Inhabited α] (l : Its α) (i j k : Nat) (hi : i < l.length) (hj : j < l.length) : ata (swp l i j) k = if k = j then ata l i else if k = i then ata l j else ata l k := by
  unfold swp
  rw [ata_set _ j k _ (by simpa using hj), ata_set _ i k _ hi]

theorem swp_perm [Inhabited α] (l : Its α) (i j : Nat) (hi : i < l.length) (hj : j < l.length) : (swp l i j).Perm l := by
  have h := Array.swap_perm (xs := l.toArray) (i := i) (j := j) (by simpa using hi) (by simpa using hj)
  have h2 := Array.perm_iff_toList_perm.1 h
  have e : (l.toArray.swap i j (by simpa using hi) (by simpa using hj)).toList = swp l i j := by
    apply List.ext_getElem?
    intro k
    simp only [Array.getElem?_toList, Array.getElem?_swap, List.getElem?_toArray, swp, ata, List.getElem?_set, List.length_set]
    by_cases h1 : j = k
    · subst h1; simp [hi, hj]
    · by_cases h2 : i = k
      · subst h2; simp [hi, hj, h1]
      · simp [h1, h2]
  rw [e] at h2
  simpa using h2

variable [DecidableEq α] [Inhabited α]

def par (k : Nat) : Nat := (k - 1) / 2

/-- No thing is less than its parent. -/
def Heap (lt : α → α → Bool) (l : Its α) (n : Nat) : Prop := ∀ k, 0 < k → k < n → il lt (ata l k) (ata l (par k)) = false

/-- The way up. -/
def upL (lt : α → α → Bool) : Nat → Its α → Nat → Its α
  | 0, l, _ => l
  | f + 1, l, j => if par j = j ∨ il lt (ata l j) (ata l (par j)) = false then l else upL lt f (swp l (par j) j) (par j)

/-- The child that a thing is held against on its way down. -/
def kid (lt : α → α → Bool) (l : Its α) (i n : Nat) : Nat := if 2 * i + 2 < n ∧ il lt (ata l (2 * i + 2)) (ata l (2 * i + 1)) = true then 2 * i + 2 else 2 * i + 1

/-- The way down: the things, and where it ends. -/
def downL (lt : α → α → Bool) : Nat → Its α → Nat → Nat → Its α × Nat
  | 0, l, i, _ => (l, i)
  | f + 1, l, i, n =>
    if n ≤ 2 * i + 1 then (l, i)
    else if il lt (ata l (kid lt l i n)) (ata l i) = false then (l, i)
    else downL lt f (swp l i (kid lt l i n)) (kid lt l i n) n

theorem par_lt {k : Nat} (h : 0 < k) : par k < k := by unfold par; omega

variable {lt : α → α → Bool}

theorem nlt_trans {β : Type} [DecidableEq β] {lt : β → β → Bool} (h : Str lt) {a b c : Int × β} (h1 : il lt a b = false) (h2 : il lt b c = false) : il lt a c = false := by
  have s := il_str h
  cases hq : il lt a c with
  | false => rfl
  | true =>
    cases hb : il lt c b with
    | true => have := s.tr _ _ _ hq hb; rw [h1] at this; cases this
    | false => have := s.tot _ _ hb h2; rw [this] at hq; rw [h1] at hq; cases hq

theorem nlt_of_lt {β : Type} [DecidableEq β] {lt : β → β → Bool} (h : Str lt) {a b : Int × β} (h1 : il lt a b = true) : il lt b a = false := by
  have s := il_str h
  cases hq : il lt b a with
  | false => rfl
  | true => have := s.tr _ _ _ h1 hq; rw [s.irr] at this; cases this

/-- A heap but for the thing at j, which may be less than its parent. -/
structure UpInv (lt : α → α → Bool) (l : Its α) (n j : Nat) : Prop where
  rest : ∀ k, 0 < k → k < n → k ≠ j → il lt (ata l k) (ata l (par k)) = false
  kids : ∀ k, 0 < k → k < n → par k = j → 0 < j → il lt (ata l k) (ata l (par j)) = false

theorem upL_spec (h : Str lt) : ∀ (f : Nat) (l : Its α) (n j : Nat), n ≤ l.length → j < n → j < f → UpInv lt l n j → Heap lt (upL lt f l j) n ∧ (upL lt f l j).Perm l ∧ (upL lt f l j).length = l.length ∧ ∀ k, n ≤ k → ata (upL lt f l j) k = ata l k := by
  intro f
  induction f with
  | zero => intro l n j _ _ hf; omega
  | succ f ih =>
    intro l n j hn hj hf inv
    unfold upL
    split
    · rename_i hc
      refine ⟨fun k hk hkn => ?_, .refl _, rfl, fun _ _ => rfl⟩
      by_cases hkj : k = j
      · subst hkj
        rcases hc with hc | hc
        · have := par_lt hk; omega
        · exact hc
      · exact inv.rest k hk hkn hkj
    · rename_i hc
      have hc1 : par j ≠ j := fun e => hc (.inl e)
      have hc2 : il lt (ata l j) (ata l (par j)) = true := by
        cases hq : il lt (ata l j) (ata l (par j)) with
        | true => rfl
        | false => exact absurd (.inr hq) hc
      have hj0 : 0 < j := by
        rcases Nat.eq_zero_or_pos j with e | e
        · subst e; exact absurd rfl hc1
        · exact e
      have hp := par_lt hj0
      have hpl : par j < l.length := by omega
      have hjl : j < l.length := by omega
      have at' := fun k => ata_swp l (par j) j k hpl hjl
      have := ih (swp l (par j) j) n (par j) (by rw [swp_len]; exact hn) (by omega) (by omega) ⟨fun k hk hkn hkp => ?_, fun k hk hkn hkp hp0 => ?_⟩
      · obtain ⟨q1, q2, q3, q4⟩ := this
        refine ⟨q1, q2.trans (swp_perm l _ _ hpl hjl), q3.trans (swp_len _ _ _), fun k hk => ?_⟩
        rw [q4 k hk, at' k, if_neg (by omega), if_neg (by omega)]
      · rw [at' k, at' (par k)]
        by_cases k1 : k = j
        · subst k1
          rw [if_pos rfl, if_neg (by omega), if_pos rfl]
          exact nlt_of_lt h hc2
        · rw [if_neg k1, if_neg hkp]
          by_cases k2 : par k = j
          · rw [if_pos k2]; exact inv.kids k hk hkn k2 hj0
          · rw [if_neg k2]
            by_cases k3 : par k = par j
            · rw [if_pos k3]
              have := inv.rest k hk hkn k1
              rw [k3] at this
              exact nlt_trans h this (nlt_of_lt h hc2)
            · rw [if_neg k3]; exact inv.rest k hk hkn k1
      · have hpp := par_lt hp0
        rw [at' k, at' (par (par j)), if_neg (show par (par j) ≠ j by omega), if_neg (show par (par j) ≠ par j by omega)]
        have hpar := inv.rest (par j) hp0 (by omega) (by omega)
        by_cases k1 : k = j
        · rw [if_pos k1]; exact hpar
        · rw [if_neg k1, if_neg (by have := par_lt hk; omega)]
          have := inv.rest k hk hkn k1
          rw [hkp] at this
          exact nlt_trans h this hpar

/-- A heap but for the thing at i, which may be greater than its children. -/
structure DownInv (lt : α → α → Bool) (l : Its α) (n i : Nat) : Prop where
  rest : ∀ k, 0 < k → k < n → par k ≠ i → k ≠ i → il lt (ata l k) (ata l (par k)) = false
  kids : ∀ k, 0 < k → k < n → par k = i → 0 < i → il lt (ata l k) (ata l (par i)) = false

theorem kid_spec (h : Str lt) (l : Its α) (i n : Nat) (hi : 2 * i + 1 < n) : par (kid lt l i n) = i ∧ kid lt l i n < n ∧ 0 < kid lt l i n ∧ i < kid lt l i n ∧ ∀ k, 0 < k → k < n → par k = i → il lt (ata l k) (ata l (kid lt l i n)) = false := by
  have s := il_str h
  unfold kid
  split
  · rename_i hc
    refine ⟨by unfold par; omega, hc.1, by omega, by omega, fun k hk hkn hp => ?_⟩
    have : k = 2 * i + 1 ∨ k = 2 * i + 2 := by unfold par at hp; omega
    rcases this with rfl | rfl
    · exact nlt_of_lt h hc.2
    · exact s.irr _
  · rename_i hc
    refine ⟨by unfold par; omega, hi, by omega, by omega, fun k hk hkn hp => ?_⟩
    have : k = 2 * i + 1 ∨ k = 2 * i + 2 := by unfold par at hp; omega
    rcases this with rfl | rfl
    · exact s.irr _
    · cases hq : il lt (ata l (2 * i + 2)) (ata l (2 * i + 1)) with
      | false => rfl
      | true => exact absurd ⟨hkn, hq⟩ hc

/-- Behind the way down: if something has moved, all is a heap (but perhaps at the beginning i, if it was less than its parent ahead). -/
theorem downL_spec (h : Str lt) : ∀ (f : Nat) (l : Its α) (n i : Nat), n ≤ l.length → i < n → n ≤ f + i → DownInv lt l n i →
    (downL lt f l i n).1.Perm l ∧ (downL lt f l i n).1.length = l.length ∧ (∀ k, n ≤ k → ata (downL lt f l i n).1 k = ata l k) ∧ i ≤ (downL lt f l i n).2 ∧ (downL lt f l i n).2 < n ∧
    (i < (downL lt f l i n).2 → Heap lt (downL lt f l i n).1 n) ∧
    ((downL lt f l i n).2 = i → (downL lt f l i n).1 = l ∧ ∀ k, 0 < k → k < n → k ≠ i → il lt (ata l k) (ata l (par k)) = false) := by
  intro f
  induction f with
  | zero => intro l n i _ hi hf; omega
  | succ f ih =>
    intro l n i hn hi hf inv
    have stay : (∀ k, 0 < k → k < n → par k = i → il lt (ata l k) (ata l i) = false) → ∀ k, 0 < k → k < n → k ≠ i → il lt (ata l k) (ata l (par k)) = false := by
      intro hk k k0 kn ki
      by_cases hp : par k = i
      · rw [hp]; exact hk k k0 kn hp
      · exact inv.rest k k0 kn hp ki
    unfold downL
    split
    · rename_i hle
      refine ⟨.refl _, rfl, fun _ _ => rfl, Nat.le_refl _, hi, fun hlt => by simp at hlt, fun _ => ⟨rfl, stay fun k k0 kn hp => ?_⟩⟩
      unfold par at hp; omega
    · rename_i hle
      obtain ⟨c1, c2, c3, c4, c5⟩ := kid_spec h l i n (by omega)
      split
      · rename_i hc
        exact ⟨.refl _, rfl, fun _ _ => rfl, Nat.le_refl _, hi, fun hlt => by simp at hlt, fun _ => ⟨rfl, stay fun k k0 kn hp => nlt_trans h (c5 k k0 kn hp) hc⟩⟩
      · rename_i hc
        have hc' : il lt (ata l (kid lt l i n)) (ata l i) = true := by
          cases hq : il lt (ata l (kid lt l i n)) (ata l i) with
          | true => rfl
          | false => exact absurd hq hc
        generalize hj : kid lt l i n = j at *
        have hil : i < l.length := by omega
        have hjl : j < l.length := by omega
        have at' := fun k => ata_swp l i j k hil hjl
        have inv' : DownInv lt (swp l i j) n j := by
          refine ⟨fun k k0 kn kp kj => ?_, fun k k0 kn kp j0 => ?_⟩
          · rw [at' k, at' (par k), if_neg kj, if_neg kp]
            by_cases k1 : k = i
            · subst k1
              rw [if_pos rfl]
              have hpk := par_lt k0
              rw [if_neg (by omega)]
              exact inv.kids j c3 c2 c1 k0
            · rw [if_neg k1]
              by_cases k2 : par k = i
              · rw [if_pos k2]; exact c5 k k0 kn k2
              · rw [if_neg k2]; exact inv.rest k k0 kn k2 k1
          · rw [at' k, at' (par j), c1, if_neg (show i ≠ j by omega), if_pos rfl]
            have hpk := par_lt k0
            rw [if_neg (by omega), if_neg (by omega)]
            have := inv.rest k k0 kn (by omega) (by omega)
            rw [kp] at this
            exact this
        obtain ⟨q1, q2, q3, q4, q5, q6, q7⟩ := ih (swp l i j) n j (by rw [swp_len]; exact hn) c2 (by omega) inv'
        refine ⟨q1.trans (swp_perm l _ _ hil hjl), q2.trans (swp_len _ _ _), fun k hk => by rw [q3 k hk, at' k, if_neg (by omega), if_neg (by omega)], by omega, q5, fun hlt => ?_, fun he => by omega⟩
        by_cases hjq : j < (downL lt f (swp l i j) j n).2
        · exact q6 hjq
        · obtain ⟨r1, r2⟩ := q7 (by omega)
          rw [r1]
          intro k k0 kn
          by_cases kj : k = j
          · subst kj
            rw [at' k, at' (par k), c1, if_pos rfl, if_neg (show i ≠ k by omega), if_pos rfl]
            exact nlt_of_lt h hc'
          · exact r2 k k0 kn kj

theorem upL_fuel : ∀ (f f' : Nat) (l : Its α) (j : Nat), j < f → j < f' → upL lt f l j = upL lt f' l j := by
  intro f
  induction f with
  | zero => intro f' l j h; omega
  | succ f ih =>
    intro f' l j h1 h2
    cases f' with
    | zero => omega
    | succ f' =>
      unfold upL
      by_cases hc : par j = j
      · rw [if_pos (.inl hc), if_pos (.inl hc)]
      · have : par j < j := by unfold par at *; omega
        rw [ih f' _ _ (by omega) (by omega)]

theorem kid_gt (l : Its α) (i n : Nat) : i < kid lt l i n := by unfold kid; split <;> omega

theorem downL_fuel : ∀ (f f' : Nat) (l : Its α) (i n : Nat), n ≤ f + i → n ≤ f' + i → downL lt f l i n = downL lt f' l i n := by
  intro f
  induction f with
  | zero =>
    intro f' l i n h1 h2
    cases f' with
    | zero => rfl
    | succ f' => unfold downL; rw [if_pos (by omega)]
  | succ f ih =>
    intro f' l i n h1 h2
    cases f' with
    | zero => unfold downL; rw [if_pos (by omega)]
    | succ f' =>
      have := kid_gt (lt := lt) l i n
      unfold downL
      rw [ih f' _ _ _ (by omega) (by omega)]

end
end Go.Proofs.YtafcjklojnhbnaaGreat.Hp
