/- The document's great numbers, further (trim, size, Add, Int); tranterref09.sat. -/
import Derived.Test.YtlkcdaeknioanaaGreatLk
namespace Go.Proofs.YtlkcdaeknioanaaGreat.Pv
open Go

theorem tight_of {l : List Int} (h : l = [] ∨ ∃ m x, l = m ++ [x] ∧ x ≠ 0) : tight l := by
  rcases h with rfl | ⟨m, x, rfl, hx⟩
  · trivial
  · induction m with
    | nil => exact hx
    | cons a m ih =>
      cases m with
      | nil => exact hx
      | cons b m => exact ih

theorem valD_zeros (l : List Int) (k : Nat) (h : ∀ d ∈ l.drop k, d = 0) : valD l = valD (l.take k) := by
  have hz : ∀ m : List Int, (∀ d ∈ m, d = 0) → valD m = 0 := by
    intro m; induction m with
    | nil => intro _; rfl
    | cons a m ih => intro h; simp only [valD]; rw [ih fun d hd => h d (by simp [hd]), h a (by simp)]; rfl
  conv => lhs; rw [← List.take_append_drop k l]
  rw [valD_app, hz _ h]; simp

set_option maxRecDepth 20000 in
theorem trim_ok (l : List Int) (neg : Bool) (hl : Digs l) (hn : l.length ≤ 1000) : Pure Tryz.prog 114 [.agg [L l, B neg]] (.agg [L (digits (valD l).toNat), B (if digits (valD l).toNat = [] then false else neg)]) := by
  refine pure_enter Tryz.func114 (by rfl) rfl Tryz.ntmps114 (congrArg Array.toList Tryz.results114) (by simp) fun S nx hd => ?_
  repeat refine pw_seq ?_
  refine pw_N [] (by rfl) (by rfl) fun K Gc Gh hK hGc hGh X hX0 hX => ?_
  simp -implicitDefEqProofs [hX0, hX]
  try clear hX0 hX X
  intro v0 v1
  refine hK _ _ _ ?_
  clear hK hGc hGh
  clear K Gc Gh
  have fl : ∀ k, k ≤ l.length → ((l.flatMap Enc.enc).take k) = ((l.take k).flatMap Enc.enc) := fun k _ => by
    have := flat_take (α := Int) Enc.enc 1 (fun _ => rfl) l k
    rw [Nat.mul_one] at this; exact this
  repeat refine pw_seq ?_
  refine pw_joinK (nx := nx) (σ := Unit) (fun _ => True) (fun _ => [(1, .ptr nx v0 0), (2, .ptr (nx + 1) v1 0)]) (fun _ => S) (fun _ => [.cells v0 138 [L (digits (valD l).toNat), B neg], .cells v1 138 [.sc (.slice none 0 0), B false]]) ?_ ?_
  · refine pw_block (pw_loopL (fun s : Nat => s ≤ l.length ∧ (∀ d ∈ l.drop s, d = 0)) (fun k => [(1, .ptr nx v0 0), (2, .ptr (nx + 1) v1 0)]) (fun k => [.cells v0 138 [L (l.take k), B neg], .cells v1 138 [.sc (.slice none 0 0), B false]]) (fun s => s) l.length [] (by simp) (by simp) (by simp) ?_)
    rintro k ⟨hk, ho⟩
    have htk : (l.take k).length = k := by simp; omega
    have stop : tight (l.take k) → L (l.take k) = L (digits (valD l).toNat) := by
      intro h
      rw [valD_zeros l k ho, ← digits_uniq (fun d hd => hl d (List.mem_of_mem_take hd)) h]
    match k, hk with
    | 0, _ =>
      repeat refine pw_seq ?_
      refine pw_N [(4, 7)] (by rfl) (by rfl) fun K Gc Gh hK hGc hGh X hX0 hX => ?_
      simp -implicitDefEqProofs [hX0, hX, undef]
      try clear hX0 hX X
      intros
      refine hK _ _ _ ?_
      clear hK hGc hGh
      clear K Gc Gh
      repeat refine pw_seq ?_
      refine pw_cf rfl ?_
      refine pw_exit (at_mk () [] trivial (by simp) rfl ?_)
      have := stop trivial
      simp only [List.take_zero] at this
      simp [this]
    | j + 1, hk =>
      obtain ⟨d, tl, a1, a2, a3, e0⟩ := el1 rfl l j (by omega)
      have hw : IntKind.i64.wrap ((j : Int) + 1 - 1) = (j : Int) := by rw [wr _ (by omega) (by omega)]; omega
      have hw' : IntKind.i64.wrap (j : Int) = (j : Int) := wr _ (by omega) (by omega)
      have hlast : ((l.take (j + 1)).flatMap Enc.enc).drop j = [I d] := by
        rw [a3, List.flatMap_append, List.drop_append_of_le_length (by rw [flen_int]; simp; omega), List.drop_of_length_le (by rw [flen_int]; simp; omega)]; rfl
      have hjj : (j : Int) < (j : Int) + 1 := by omega
      by_cases h0 : d = 0
      · repeat refine pw_seq ?_
        refine pw_N [(4, 7)] (by rfl) (by rfl) fun K Gc Gh hK hGc hGh X hX0 hX => ?_
        simp -implicitDefEqProofs [hX0, hX, htk, hw', hlast, hjj, h0]
        try clear hX0 hX X
        intros
        refine hK _ _ _ ?_
        clear hK hGc hGh
        clear K Gc Gh
        repeat refine pw_seq ?_
        refine pw_ct (by simp) ?_
        refine pw_skip (pw_block ?_)
        have hft : ((l.take (j + 1)).flatMap Enc.enc).take j = (l.take j).flatMap Enc.enc := by rw [← fl (j + 1) hk, List.take_take, fl _ (by omega)]; congr 2; omega
        have hjl : (l.take j).length = j := by simp; omega
        repeat refine pw_seq ?_
        refine pw_N [] (by rfl) (by rfl) fun K Gc Gh hK hGc hGh X hX0 hX => ?_
        simp -implicitDefEqProofs [hX0, hX, htk, hw', hft]
        try clear hX0 hX X
        intros
        refine hK _ _ _ ?_
        clear hK hGc hGh
        clear K Gc Gh
        exact again_mk j [] ⟨by omega, fun e he => by rw [a2] at he; rcases List.mem_cons.1 he with q | q; exact q.trans h0; exact ho e q⟩ (by omega) (by simp) rfl (by simp [hjl])
      · repeat refine pw_seq ?_
        refine pw_N [(4, 7)] (by rfl) (by rfl) fun K Gc Gh hK hGc hGh X hX0 hX => ?_
        simp -implicitDefEqProofs [hX0, hX, htk, hw', hlast, hjj, h0]
        try clear hX0 hX X
        intros
        refine hK _ _ _ ?_
        clear hK hGc hGh
        clear K Gc Gh
        repeat refine pw_seq ?_
        refine pw_cf (by simp) ?_
        have := stop (tight_of (.inr ⟨l.take j, d, a3, h0⟩))
        refine pw_exit (at_mk () [] trivial (by simp) rfl (by rw [this]; rfl))
  · intro _ _
    have hdl := digits_ok (valD l).toNat
    generalize digits (valD l).toNat = m at hdl ⊢
    cases m with
    | nil =>
      repeat refine pw_seq ?_
      refine pw_N [] (by rfl) (by rfl) fun K Gc Gh hK hGc hGh X hX0 hX => ?_
      simp -implicitDefEqProofs [hX0, hX]
      try clear hX0 hX X
      intros
      refine hK _ _ _ ?_
      clear hK hGc hGh
      clear K Gc Gh
      repeat refine pw_seq ?_
      refine pw_ct (by simp) ?_
      repeat refine pw_seq ?_
      refine pw_N [] (by rfl) (by rfl) fun K Gc Gh hK hGc hGh X hX0 hX => ?_
      simp -implicitDefEqProofs [hX0, hX]
      try clear hX0 hX X
      intros
      refine hK _ _ _ ?_
      clear hK hGc hGh
      clear K Gc Gh
      repeat refine pw_seq ?_
      refine pw_N [] (by rfl) (by rfl) fun K Gc Gh hK hGc hGh X hX0 hX => ?_
      simp -implicitDefEqProofs [hX0, hX]
      try clear hX0 hX X
      intros
      refine hK _ _ _ ?_
      clear hK hGc hGh
      clear K Gc Gh
      repeat refine pw_seq ?_
      exact pw_ret (ret_pure hd (by simp; rfl) rfl)
    | cons a m =>
      have h1 : ¬ ((m.length : Int) + 1 = 0) := by omega
      repeat refine pw_seq ?_
      refine pw_N [] (by rfl) (by rfl) fun K Gc Gh hK hGc hGh X hX0 hX => ?_
      simp -implicitDefEqProofs [hX0, hX, h1]
      try clear hX0 hX X
      intros
      refine hK _ _ _ ?_
      clear hK hGc hGh
      clear K Gc Gh
      repeat refine pw_seq ?_
      refine pw_cf (by simp) ?_
      refine pw_skip ?_
      repeat refine pw_seq ?_
      refine pw_N [] (by rfl) (by rfl) fun K Gc Gh hK hGc hGh X hX0 hX => ?_
      simp -implicitDefEqProofs [hX0, hX]
      try clear hX0 hX X
      intros
      refine hK _ _ _ ?_
      clear hK hGc hGh
      clear K Gc Gh
      repeat refine pw_seq ?_
      exact pw_ret (ret_pure hd (by simp; rfl) rfl)

/-- Lists of digits by their size. -/
def sizeL : List Int → List Int → Int
  | x :: a, y :: b => if x < y then -1 else if y < x then 1 else sizeL a b
  | _, _ => 0
def sizeD (a b : List Int) : Int := if a.length < b.length then -1 else if b.length < a.length then 1 else sizeL a.reverse b.reverse

set_option maxRecDepth 20000 in
theorem size_ok (a b : List Int) (ha : a.length ≤ 1000) (_ : b.length ≤ 1000) : Pure Tryz.prog 113 [L a, L b] (I (sizeD a b)) := by
  refine pure_enter Tryz.func113 (by rfl) rfl Tryz.ntmps113 (congrArg Array.toList Tryz.results113) (by simp) fun S nx hd => ?_
  repeat refine pw_seq ?_
  refine pw_N [] (by rfl) (by rfl) fun K Gc Gh hK hGc hGh X hX0 hX => ?_
  simp -implicitDefEqProofs [hX0, hX]
  try clear hX0 hX X
  intros
  refine hK _ _ _ ?_
  clear hK hGc hGh
  clear K Gc Gh
  by_cases h1 : a.length = b.length
  case neg =>
    have h1' : ¬ ((a.length : Int) = b.length) := by omega
    repeat refine pw_seq ?_
    refine pw_N [] (by rfl) (by rfl) fun K Gc Gh hK hGc hGh X hX0 hX => ?_
    simp -implicitDefEqProofs [hX0, hX, h1']
    try clear hX0 hX X
    intros
    refine hK _ _ _ ?_
    clear hK hGc hGh
    clear K Gc Gh
    repeat refine pw_seq ?_
    refine pw_ct (by simp) ?_
    by_cases h2 : a.length < b.length
    · repeat refine pw_seq ?_
      refine pw_N [] (by rfl) (by rfl) fun K Gc Gh hK hGc hGh X hX0 hX => ?_
      simp -implicitDefEqProofs [hX0, hX]
      try clear hX0 hX X
      intros
      refine hK _ _ _ ?_
      clear hK hGc hGh
      clear K Gc Gh
      repeat refine pw_seq ?_
      refine pw_ct (by simp [h2]) ?_
      repeat refine pw_seq ?_
      refine pw_N [] (by rfl) (by rfl) fun K Gc Gh hK hGc hGh X hX0 hX => ?_
      simp -implicitDefEqProofs [hX0, hX]
      try clear hX0 hX X
      intros
      refine hK _ _ _ ?_
      clear hK hGc hGh
      clear K Gc Gh
      repeat refine pw_seq ?_
      exact pw_ret (ret_pure hd (by simp; rfl) (by simp [sizeD, h2, oneOf]))
    · repeat refine pw_seq ?_
      refine pw_N [] (by rfl) (by rfl) fun K Gc Gh hK hGc hGh X hX0 hX => ?_
      simp -implicitDefEqProofs [hX0, hX]
      try clear hX0 hX X
      intros
      refine hK _ _ _ ?_
      clear hK hGc hGh
      clear K Gc Gh
      repeat refine pw_seq ?_
      refine pw_cf (by simp; omega) ?_
      refine pw_skip ?_
      repeat refine pw_seq ?_
      refine pw_N [] (by rfl) (by rfl) fun K Gc Gh hK hGc hGh X hX0 hX => ?_
      simp -implicitDefEqProofs [hX0, hX]
      try clear hX0 hX X
      intros
      refine hK _ _ _ ?_
      clear hK hGc hGh
      clear K Gc Gh
      repeat refine pw_seq ?_
      exact pw_ret (ret_pure hd (by simp; rfl) (by simp [sizeD, h2, show b.length < a.length by omega, oneOf]))
  have hres : sizeD a b = sizeL a.reverse b.reverse := by simp [sizeD, h1]
  rw [hres]
  have h1' : ((a.length : Int) = b.length) := by omega
  repeat refine pw_seq ?_
  refine pw_N [] (by rfl) (by rfl) fun K Gc Gh hK hGc hGh X hX0 hX => ?_
  simp -implicitDefEqProofs [hX0, hX, h1']
  try clear hX0 hX X
  intros
  refine hK _ _ _ ?_
  clear hK hGc hGh
  clear K Gc Gh
  repeat refine pw_seq ?_
  refine pw_cf (by simp) ?_
  refine pw_skip ?_
  repeat refine pw_seq ?_
  refine pw_N [] (by rfl) (by rfl) fun K Gc Gh hK hGc hGh X hX0 hX => ?_
  simp -implicitDefEqProofs [hX0, hX]
  try clear hX0 hX X
  intros
  refine hK _ _ _ ?_
  clear hK hGc hGh
  clear K Gc Gh
  repeat refine pw_seq ?_
  have w0 : IntKind.i64.wrap ((a.length : Int) - 1) = (a.length : Int) - 1 := wr _ (by omega) (by omega)
  refine pw_block (pw_loopL (fun m : Nat => m ≤ a.length ∧ sizeL a.reverse b.reverse = sizeL (a.take m).reverse (b.take m).reverse) (fun m => [(0, L a), (1, L b), (5, I ((m : Int) - 1))]) (fun _ => []) (fun m => m) a.length [] ⟨Nat.le_refl _, by rw [List.take_length, List.take_of_length_le (by omega)]⟩ (by simp [w0]) (by simp) ?_)
  rintro m ⟨hm, ho⟩
  match m, hm with
  | 0, _ =>
    repeat refine pw_seq ?_
    refine pw_N [] (by rfl) (by rfl) fun K Gc Gh hK hGc hGh X hX0 hX => ?_
    simp -implicitDefEqProofs [hX0, hX]
    try clear hX0 hX X
    intros
    refine hK _ _ _ ?_
    clear hK hGc hGh
    clear K Gc Gh
    repeat refine pw_seq ?_
    refine pw_cf (by simp) ?_
    refine pw_exit ?_
    repeat refine pw_seq ?_
    refine pw_N [] (by rfl) (by rfl) fun K Gc Gh hK hGc hGh X hX0 hX => ?_
    simp -implicitDefEqProofs [hX0, hX]
    try clear hX0 hX X
    intros
    refine hK _ _ _ ?_
    clear hK hGc hGh
    clear K Gc Gh
    repeat refine pw_seq ?_
    exact pw_ret (ret_pure hd (by simp; rfl) (by rw [ho]; simp [sizeL, oneOf]))
  | j + 1, hm =>
    have s1 : ((j + 1 : Nat) : Int) - 1 = (j : Int) := by omega
    obtain ⟨x, tl, a1, a2, a3, e0⟩ := el1 rfl a j (by omega)
    obtain ⟨y, tl2, b1, b2, b3, e2⟩ := el1 rfl b j (by omega)
    rw [a3, b3] at ho
    simp only [List.reverse_append, List.reverse_cons, List.reverse_nil, List.nil_append, List.cons_append, sizeL] at ho
    have g1 : j < a.length := by omega
    have g2 : j < b.length := by omega
    have s2 : (j : Int) + 1 - 1 = (j : Int) := by omega
    repeat refine pw_seq ?_
    refine pw_N [] (by rfl) (by rfl) fun K Gc Gh hK hGc hGh X hX0 hX => ?_
    simp -implicitDefEqProofs [hX0, hX, s2]
    try clear hX0 hX X
    intros
    refine hK _ _ _ ?_
    clear hK hGc hGh
    clear K Gc Gh
    repeat refine pw_seq ?_
    refine pw_ct (by simp) ?_
    refine pw_skip (pw_seq (pw_block ?_))
    repeat refine pw_seq ?_
    refine pw_Y none (Row.pures [0, 1, 2, 3, 4, 5, 6, 7, 8] .done) mixed (by rfl) (by rfl) (by rfl) fun K Gp Gc Gh hK hGp hGc hGh X hX0 hX1 hX2 hX => ?_
    simp -implicitDefEqProofs [hX0, hX2, g1, g2, e0, e2]
    try clear hX0 hX1 hX2 hX X
    refine hK _ _ _ ?_
    clear hK hGp hGc hGh
    clear K Gp Gc Gh
    by_cases h3 : x < y
    · repeat refine pw_seq ?_
      refine pw_ct (by simp [h3]) ?_
      repeat refine pw_seq ?_
      refine pw_N [] (by rfl) (by rfl) fun K Gc Gh hK hGc hGh X hX0 hX => ?_
      simp -implicitDefEqProofs [hX0, hX]
      try clear hX0 hX X
      intros
      refine hK _ _ _ ?_
      clear hK hGc hGh
      clear K Gc Gh
      repeat refine pw_seq ?_
      exact pw_ret (ret_pure hd (by simp; rfl) (by rw [ho, if_pos h3]; rfl))
    · repeat refine pw_seq ?_
      refine pw_cf (by simp; omega) ?_
      refine pw_skip ?_
      repeat refine pw_seq ?_
      refine pw_Y none (Row.pures [0, 1, 2, 3, 4, 5, 6, 7, 8] .done) mixed (by rfl) (by rfl) (by rfl) fun K Gp Gc Gh hK hGp hGc hGh X hX0 hX1 hX2 hX => ?_
      simp -implicitDefEqProofs [hX0, hX2, g1, g2, e0, e2]
      try clear hX0 hX1 hX2 hX X
      refine hK _ _ _ ?_
      clear hK hGp hGc hGh
      clear K Gp Gc Gh
      by_cases h4 : y < x
      · repeat refine pw_seq ?_
        refine pw_ct (by simp [h4]) ?_
        repeat refine pw_seq ?_
        refine pw_N [] (by rfl) (by rfl) fun K Gc Gh hK hGc hGh X hX0 hX => ?_
        simp -implicitDefEqProofs [hX0, hX]
        try clear hX0 hX X
        intros
        refine hK _ _ _ ?_
        clear hK hGc hGh
        clear K Gc Gh
        repeat refine pw_seq ?_
        exact pw_ret (ret_pure hd (by simp; rfl) (by rw [ho, if_neg h3, if_pos h4]; rfl))
      · repeat refine pw_seq ?_
        refine pw_cf (by simp; omega) ?_
        refine pw_skip ?_
        have w1 : IntKind.i64.wrap ((j : Int) - 1) = (j : Int) - 1 := wr _ (by omega) (by omega)
        repeat refine pw_seq ?_
        refine pw_N [] (by rfl) (by rfl) fun K Gc Gh hK hGc hGh X hX0 hX => ?_
        simp -implicitDefEqProofs [hX0, hX, w1]
        try clear hX0 hX X
        intros
        refine hK _ _ _ ?_
        clear hK hGc hGh
        clear K Gc Gh
        exact again_mk j [] ⟨by omega, by rw [ho, if_neg h3, if_neg h4]⟩ (by omega) (by simp) rfl (by simp)

theorem valD_take (l : List Int) (h : Digs l) (k : Nat) : 0 ≤ valD (l.take k) ∧ valD (l.take k) < 65536 ^ k := by
  have hd : Digs (l.take k) := fun d hd => h d (List.mem_of_mem_take hd)
  refine ⟨valD_nonneg hd, ?_⟩
  have main : ∀ (k : Nat) (m : List Int), Digs m → m.length ≤ k → valD m < 65536 ^ k := by
    intro k
    induction k with
    | zero => intro m _ hm; simp at hm; subst hm; simp [valD]
    | succ k ih =>
      intro m hm hl
      cases m with
      | nil => simp only [valD]; exact Int.pow_pos (by decide)
      | cons d m =>
        have h1 := hm d (by simp)
        have h2 := ih m (fun x hx => hm x (by simp [hx])) (by simpa using hl)
        simp only [valD, Int.pow_succ]; omega
  exact main k _ hd (by simp; omega)

theorem sizeL_le : ∀ (m : Nat) (a b : List Int), Digs a → Digs b → a.length = m → b.length = m → valD a ≤ valD b → sizeL a.reverse b.reverse ≤ 0 := by
  intro m
  induction m with
  | zero => intro a b _ _ ha hb _; rw [List.eq_nil_of_length_eq_zero ha]; simp [sizeL]
  | succ m ih =>
    intro a b ha hb hal hbl hv
    have hane : a ≠ [] := by intro e; subst e; cases hal
    have hbne : b ≠ [] := by intro e; subst e; cases hbl
    obtain ⟨a', x, rfl⟩ : ∃ a' x, a = a' ++ [x] := ⟨a.dropLast, a.getLast hane, (List.dropLast_concat_getLast hane).symm⟩
    obtain ⟨b', y, rfl⟩ : ∃ b' y, b = b' ++ [y] := ⟨b.dropLast, b.getLast hbne, (List.dropLast_concat_getLast hbne).symm⟩
    have hal' : a'.length = m := by simpa using hal
    have hbl' : b'.length = m := by simpa using hbl
    have ha' : Digs a' := fun d hd => ha d (by simp [hd])
    have hb' : Digs b' := fun d hd => hb d (by simp [hd])
    have p1 := valD_take (b' ++ [y]) hb m
    have p2 := valD_take (a' ++ [x]) ha m
    rw [List.take_append_of_le_length (by omega), List.take_of_length_le (by omega)] at p1 p2
    rw [valD_app, valD_app, hal', hbl'] at hv
    simp only [valD, Int.mul_zero, Int.add_zero] at hv
    simp only [List.reverse_append, List.reverse_cons, List.reverse_nil, List.nil_append, List.cons_append, sizeL]
    by_cases h1 : x < y
    · rw [if_pos h1]; omega
    · rw [if_neg h1]
      by_cases h2 : y < x
      · exfalso
        have : (65536 : Int) ^ m * x ≥ 65536 ^ m * (y + 1) := Int.mul_le_mul_of_nonneg_left (by omega) (by omega)
        rw [Int.mul_add] at this
        omega
      · rw [if_neg h2]
        have hxy : x = y := by omega
        subst hxy
        exact ih a' b' ha' hb' hal' hbl' (by omega)

theorem digits_len {a b : Nat} (h : a ≤ b) : (digits a).length ≤ (digits b).length := by
  induction b using Nat.strongRecOn generalizing a with
  | _ b ih =>
    by_cases h0 : a = 0
    · subst h0; rw [digits_zero]; simp
    · rw [digits_pos h0, digits_pos (show b ≠ 0 by omega)]
      have := ih (b / 65536) (by omega) (a := a / 65536) (Nat.div_le_div_right h)
      simpa using this

theorem sizeD_le {a b : Nat} (h : a ≤ b) : sizeD (digits a) (digits b) ≤ 0 := by
  have hl := digits_len h
  unfold sizeD
  split
  · omega
  · rw [if_neg (by omega)]
    have h1 := digits_ok a
    have h2 := digits_ok b
    exact sizeL_le _ _ _ h1.1 h2.1 rfl (by omega) (by rw [h1.2.1, h2.2.1]; omega)

theorem len4 {n : Nat} (h : n ≤ 18446744073709551615) : (digits n).length ≤ 4 := (digits_ok n).2.2.2 (by rw [show (65536 : Nat) ^ 4 = 18446744073709551616 from by decide]; omega)

set_option maxRecDepth 20000 in
theorem addB_ok (a b : Nat) (ha : a ≤ 9223372036854775807) (hb : b ≤ 9223372036854775807) : Pure Tryz.prog 89 [.agg [L (digits a), B false], .agg [L (digits b), B false]] (.agg [L (digits (a + b)), B false]) := by
  have h1 := digits_ok a
  have h2 := digits_ok b
  have l1 := len4 (n := a) (by omega)
  have l2 := len4 (n := b) (by omega)
  obtain ⟨p1, p2, p3⟩ := plusD_ok (digits a) (digits b) 0 h1.1 h2.1 (by omega) (by omega)
  have hv : (valD (plusD (digits a) (digits b) 0)).toNat = a + b := by rw [p2, h1.2.1, h2.2.1]; omega
  have hpl := plus_ok (digits a) (digits b) h1.1 h2.1 (by omega) (by omega)
  have htr := trim_ok (plusD (digits a) (digits b) 0) false p1 (by omega)
  rw [hv, ite_self] at htr
  generalize digits a = x at *
  generalize digits b = y at *
  generalize plusD x y 0 = z at *
  refine pure_enter Tryz.func89 (by rfl) rfl Tryz.ntmps89 (congrArg Array.toList Tryz.results89) (by simp) fun S nx hd => ?_
  repeat refine pw_seq ?_
  refine pw_N [] (by rfl) (by rfl) fun K Gc Gh hK hGc hGh X hX0 hX => ?_
  simp -implicitDefEqProofs [hX0, hX]
  try clear hX0 hX X
  intro v0 v1 v2
  refine hK _ _ _ ?_
  clear hK hGc hGh
  clear K Gc Gh
  repeat refine pw_seq ?_
  refine pw_N [] (by rfl) (by rfl) fun K Gc Gh hK hGc hGh X hX0 hX => ?_
  simp -implicitDefEqProofs [hX0, hX]
  try clear hX0 hX X
  intros
  refine hK _ _ _ ?_
  clear hK hGc hGh
  clear K Gc Gh
  repeat refine pw_seq ?_
  refine pw_ct (by simp) ?_
  repeat refine pw_seq ?_
  refine pw_Y (some [nx, nx + 1]) (Row.pures [0, 1, 2, 3, 4, 5, 6, 7, 8] (.alt 9 (.done) .stop)) mixed (by rfl) (by rfl) (by rfl) fun K Gp Gc Gh hK hGp hGc hGh X hX0 hX1 hX2 hX => ?_
  simp -implicitDefEqProofs [hX2]
  try clear hX0 hX1 hX2 hX X
  refine hGp _ _ _ _ _ _ _ _ (hpl) ?_
  clear hGp hGc hGh
  clear Gp Gc Gh
  refine px_go fun Gp Gc Gh hGp hGc hGh X hX0 hX1 hX2 hX => ?_
  simp -implicitDefEqProofs [hX2]
  try clear hX0 hX1 hX2 hX X
  refine hGp _ _ _ _ _ _ _ _ (htr) ?_
  clear hGp hGc hGh
  clear Gp Gc Gh
  refine px_go fun Gp Gc Gh hGp hGc hGh X hX0 hX1 hX2 hX => ?_
  simp -implicitDefEqProofs [hX0, hX1, hX]
  try clear hX0 hX1 hX2 hX X
  refine hK _ _ _ ?_
  clear hK hGp hGc hGh
  clear K Gp Gc Gh
  repeat refine pw_seq ?_
  exact pw_ret (ret_pure hd (by simp; rfl) rfl)

set_option maxRecDepth 20000 in
theorem intB_ok (n : Nat) (hn : n ≤ 9223372036854775807) : Pure Tryz.prog 88 [.agg [L (digits n), B false]] (.tup [I n, B true]) := by
  have h1 := digits_ok n
  have l1 := len4 (n := n) (by omega)
  have hsz := sizeD_le (a := n) (b := 9223372036854775807) hn
  have hs := size_ok (digits n) (digits 9223372036854775807) (by omega) (by have := len4 (n := 9223372036854775807) (by omega); omega)
  have o1 := ofB_ok 9223372036854775807 (by unfold I64; omega)
  have o2 := ofB_ok (-9223372036854775808) (by unfold I64; omega)
  rw [show ((9223372036854775807 : Int)).natAbs = 9223372036854775807 from rfl, show decide ((9223372036854775807 : Int) < 0) = false from rfl] at o1
  rw [show decide ((-9223372036854775808 : Int) < 0) = true from rfl] at o2
  generalize digits (-9223372036854775808 : Int).natAbs = lo at *
  generalize digits 9223372036854775807 = hi at *
  generalize hdn : digits n = l at *
  have hg : ¬ 0 < sizeD l hi := by omega
  refine pure_enter Tryz.func88 (by rfl) rfl Tryz.ntmps88 (congrArg Array.toList Tryz.results88) (by simp) fun S nx hd => ?_
  repeat refine pw_seq ?_
  refine pw_N [] (by rfl) (by rfl) fun K Gc Gh hK hGc hGh X hX0 hX => ?_
  simp -implicitDefEqProofs [hX0, hX]
  try clear hX0 hX X
  intro v0
  refine hK _ _ _ ?_
  clear hK hGc hGh
  clear K Gc Gh
  repeat refine pw_seq ?_
  refine pw_N [] (by rfl) (by rfl) fun K Gc Gh hK hGc hGh X hX0 hX => ?_
  simp -implicitDefEqProofs [hX]
  try clear hX0 hX X
  refine hGc _ _ _ _ _ _ _ fun hsuf => ((o1 _).mono ?_).v
  rintro _ _ ⟨rfl, rfl⟩
  refine ⟨_, _, rfl, ?_⟩
  clear hGc hGh
  clear Gc Gh
  refine xs_go hsuf (D := []) (by rfl) fun Gc Gh hGc hGh X hX0 hX => ?_
  simp -implicitDefEqProofs [hX0, hX]
  try clear hX0 hX X
  intro v1
  intros
  refine hK _ _ _ ?_
  clear hK hGc hGh
  clear K Gc Gh
  repeat refine pw_seq ?_
  refine pw_N [] (by rfl) (by rfl) fun K Gc Gh hK hGc hGh X hX0 hX => ?_
  simp -implicitDefEqProofs [hX]
  try clear hX0 hX X
  refine hGc _ _ _ _ _ _ _ fun hsuf => ((o2 _).mono ?_).v
  rintro _ _ ⟨rfl, rfl⟩
  refine ⟨_, _, rfl, ?_⟩
  clear hGc hGh
  clear Gc Gh
  refine xs_go hsuf (D := []) (by rfl) fun Gc Gh hGc hGh X hX0 hX => ?_
  simp -implicitDefEqProofs [hX0, hX]
  try clear hX0 hX X
  intro v2
  intros
  refine hK _ _ _ ?_
  clear hK hGc hGh
  clear K Gc Gh
  repeat refine pw_seq ?_
  refine pw_N [(3, 13)] (by rfl) (by rfl) fun K Gc Gh hK hGc hGh X hX0 hX => ?_
  simp -implicitDefEqProofs [hX]
  try clear hX0 hX X
  refine hGc _ _ _ _ _ _ _ fun hsuf => ((hs _).mono ?_).v
  rintro _ _ ⟨rfl, rfl⟩
  refine ⟨_, _, rfl, ?_⟩
  clear hGc hGh
  clear Gc Gh
  refine xs_go hsuf (D := [(3, 13)]) (by rfl) fun Gc Gh hGc hGh X hX0 hX => ?_
  simp -implicitDefEqProofs [hX0, hX, hg]
  try clear hX0 hX X
  intros
  refine hK _ _ _ ?_
  clear hK hGc hGh
  clear K Gc Gh
  repeat refine pw_seq ?_
  refine pw_cf (by simp) ?_
  refine pw_skip ?_
  repeat refine pw_seq ?_
  refine pw_N [(2, 23)] (by rfl) (by rfl) fun K Gc Gh hK hGc hGh X hX0 hX => ?_
  simp -implicitDefEqProofs [hX0, hX, undef]
  try clear hX0 hX X
  intros
  refine hK _ _ _ ?_
  clear hK hGc hGh
  clear K Gc Gh
  repeat refine pw_seq ?_
  refine pw_cf (by simp) ?_
  refine pw_skip ?_
  repeat refine pw_seq ?_
  refine pw_N [] (by rfl) (by rfl) fun K Gc Gh hK hGc hGh X hX0 hX => ?_
  simp -implicitDefEqProofs [hX0, hX]
  try clear hX0 hX X
  intros
  refine hK _ _ _ ?_
  clear hK hGc hGh
  clear K Gc Gh
  have w0 : IntKind.i64.wrap ((l.length : Int) - 1) = (l.length : Int) - 1 := wr _ (by omega) (by omega)
  repeat refine pw_seq ?_
  refine pw_N [] (by rfl) (by rfl) fun K Gc Gh hK hGc hGh X hX0 hX => ?_
  simp -implicitDefEqProofs [hX0, hX, w0]
  try clear hX0 hX X
  intros
  refine hK _ _ _ ?_
  clear hK hGc hGh
  clear K Gc Gh
  repeat refine pw_seq ?_
  refine pw_block (pw_loopL (fun m : Nat => m ≤ l.length) (fun m => [(1, .ptr nx v0 0), (6, I (valD (l.drop m))), (7, I ((m : Int) - 1))]) (fun _ => [.cells v0 138 [L l, B false]]) (fun m => m) l.length [_, _] (Nat.le_refl _) (by simp [valD]) rfl ?_)
  rintro m hm
  match m, hm with
  | 0, _ =>
    repeat refine pw_seq ?_
    refine pw_N [] (by rfl) (by rfl) fun K Gc Gh hK hGc hGh X hX0 hX => ?_
    simp -implicitDefEqProofs [hX0, hX]
    try clear hX0 hX X
    intros
    refine hK _ _ _ ?_
    clear hK hGc hGh
    clear K Gc Gh
    repeat refine pw_seq ?_
    refine pw_cf (by simp) ?_
    refine pw_exit ?_
    repeat refine pw_seq ?_
    refine pw_N [] (by rfl) (by rfl) fun K Gc Gh hK hGc hGh X hX0 hX => ?_
    simp -implicitDefEqProofs [hX0, hX]
    try clear hX0 hX X
    intros
    refine hK _ _ _ ?_
    clear hK hGc hGh
    clear K Gc Gh
    repeat refine pw_seq ?_
    exact pw_ret (ret_pure hd (by simp; rfl) (by simp [h1.2.1, oneOf]))
  | j + 1, hm =>
    have s1 : ((j + 1 : Nat) : Int) - 1 = (j : Int) := by omega
    have s2 : (j : Int) + 1 - 1 = (j : Int) := by omega
    obtain ⟨x, tl, a1, a2, a3, e0⟩ := el1 rfl l j (by omega)
    have g1 : j < l.length := by omega
    have hx := h1.1 x (List.mem_of_getElem? a1)
    have hv0 : 0 ≤ valD (l.drop (j + 1)) := valD_nonneg fun d hd => h1.1 d (List.mem_of_mem_drop hd)
    have hvj : valD (l.drop j) = x + 65536 * valD (l.drop (j + 1)) := by rw [a2]; rfl
    have hvle : valD (l.drop j) ≤ n := by
      have e := valD_app (l.take j) (l.drop j)
      rw [List.take_append_drop, h1.2.1] at e
      have t0 := (valD_take l h1.1 j).1
      have hp : (1 : Int) ≤ 65536 ^ (l.take j).length := by have := Int.pow_pos (n := 65536) (m := (l.take j).length) (by decide); omega
      have hd0 : 0 ≤ valD (l.drop j) := by omega
      have := Int.mul_le_mul_of_nonneg_right hp hd0
      rw [Int.one_mul] at this
      omega
    have w1 : IntKind.i64.wrap (valD (l.drop (j + 1)) * 65536) = valD (l.drop (j + 1)) * 65536 := wr _ (by omega) (by omega)
    have w2 : IntKind.i64.wrap (valD (l.drop (j + 1)) * 65536 + x) = valD (l.drop j) := by rw [wr _ (by omega) (by omega)]; omega
    have w3 : IntKind.i64.wrap ((j : Int) - 1) = (j : Int) - 1 := wr _ (by omega) (by omega)
    repeat refine pw_seq ?_
    refine pw_N [] (by rfl) (by rfl) fun K Gc Gh hK hGc hGh X hX0 hX => ?_
    simp -implicitDefEqProofs [hX0, hX, s2]
    try clear hX0 hX X
    intros
    refine hK _ _ _ ?_
    clear hK hGc hGh
    clear K Gc Gh
    repeat refine pw_seq ?_
    refine pw_ct (by simp) ?_
    refine pw_skip (pw_seq (pw_block ?_))
    repeat refine pw_seq ?_
    refine pw_N [] (by rfl) (by rfl) fun K Gc Gh hK hGc hGh X hX0 hX => ?_
    simp -implicitDefEqProofs [hX0, hX, w1]
    try clear hX0 hX X
    intros
    refine hK _ _ _ ?_
    clear hK hGc hGh
    clear K Gc Gh
    repeat refine pw_seq ?_
    refine pw_N [] (by rfl) (by rfl) fun K Gc Gh hK hGc hGh X hX0 hX => ?_
    simp -implicitDefEqProofs [hX0, hX]
    try clear hX0 hX X
    intros
    refine hK _ _ _ ?_
    clear hK hGc hGh
    clear K Gc Gh
    repeat refine pw_seq ?_
    refine pw_cf (by simp) ?_
    repeat refine pw_seq ?_
    refine pw_N [] (by rfl) (by rfl) fun K Gc Gh hK hGc hGh X hX0 hX => ?_
    simp -implicitDefEqProofs [hX0, hX, g1, e0, w2]
    try clear hX0 hX X
    intros
    refine hK _ _ _ ?_
    clear hK hGc hGh
    clear K Gc Gh
    repeat refine pw_seq ?_
    refine pw_N [] (by rfl) (by rfl) fun K Gc Gh hK hGc hGh X hX0 hX => ?_
    simp -implicitDefEqProofs [hX0, hX, w3]
    try clear hX0 hX X
    intros
    refine hK _ _ _ ?_
    clear hK hGc hGh
    clear K Gc Gh
    exact again_mk j [] (by omega) (by omega) (by simp) rfl (by simp)

set_option maxRecDepth 20000 in
theorem satR_ok (a b : Int) (ha : 0 ≤ a) (hb : 0 ≤ b) (hab : a + b ≤ 9223372036854775807) : Pure Tryz.prog 66 [I a, I b] (I (a + b)) := by
  obtain ⟨x, rfl⟩ := Int.eq_ofNat_of_zero_le ha
  obtain ⟨y, rfl⟩ := Int.eq_ofNat_of_zero_le hb
  have o1 := ofB_ok (x : Int) (by unfold I64; omega)
  have o2 := ofB_ok (y : Int) (by unfold I64; omega)
  rw [Int.natAbs_natCast, decide_eq_false (by omega)] at o1 o2
  have h3 := addB_ok x y (by omega) (by omega)
  have h4 := intB_ok (x + y) (by omega)
  rw [show ((x + y : Nat) : Int) = (x : Int) + (y : Int) by omega] at h4
  refine pure_enter Tryz.func66 (by rfl) rfl Tryz.ntmps66 (congrArg Array.toList Tryz.results66) (by simp) fun S nx hd => ?_
  repeat refine pw_seq ?_
  refine pw_N [] (by rfl) (by rfl) fun K Gc Gh hK hGc hGh X hX0 hX => ?_
  simp -implicitDefEqProofs [hX0, hX]
  try clear hX0 hX X
  intros
  refine hK _ _ _ ?_
  clear hK hGc hGh
  clear K Gc Gh
  repeat refine pw_seq ?_
  refine pw_N [] (by rfl) (by rfl) fun K Gc Gh hK hGc hGh X hX0 hX => ?_
  simp -implicitDefEqProofs [hX]
  try clear hX0 hX X
  refine hGc _ _ _ _ _ _ _ fun hsuf => ((o1 _).mono ?_).v
  rintro _ _ ⟨rfl, rfl⟩
  refine ⟨_, _, rfl, ?_⟩
  clear hGc hGh
  clear Gc Gh
  refine xs_go hsuf (D := []) (by rfl) fun Gc Gh hGc hGh X hX0 hX => ?_
  simp -implicitDefEqProofs [hX]
  try clear hX0 hX X
  refine hGc _ _ _ _ _ _ _ fun hsuf => ((o2 _).mono ?_).v
  rintro _ _ ⟨rfl, rfl⟩
  refine ⟨_, _, rfl, ?_⟩
  clear hGc hGh
  clear Gc Gh
  refine xs_go hsuf (D := []) (by rfl) fun Gc Gh hGc hGh X hX0 hX => ?_
  simp -implicitDefEqProofs [hX]
  try clear hX0 hX X
  refine hGc _ _ _ _ _ _ _ fun hsuf => ((h3 _).mono ?_).v
  rintro _ _ ⟨rfl, rfl⟩
  refine ⟨_, _, rfl, ?_⟩
  clear hGc hGh
  clear Gc Gh
  refine xs_go hsuf (D := []) (by rfl) fun Gc Gh hGc hGh X hX0 hX => ?_
  simp -implicitDefEqProofs [hX]
  try clear hX0 hX X
  refine hGc _ _ _ _ _ _ _ fun hsuf => ((h4 _).mono ?_).v
  rintro _ _ ⟨rfl, rfl⟩
  refine ⟨_, _, rfl, ?_⟩
  clear hGc hGh
  clear Gc Gh
  refine xs_go hsuf (D := []) (by rfl) fun Gc Gh hGc hGh X hX0 hX => ?_
  simp -implicitDefEqProofs [hX0, hX]
  try clear hX0 hX X
  intros
  refine hK _ _ _ ?_
  clear hK hGc hGh
  clear K Gc Gh
  repeat refine pw_seq ?_
  refine pw_N [] (by rfl) (by rfl) fun K Gc Gh hK hGc hGh X hX0 hX => ?_
  simp -implicitDefEqProofs [hX0, hX]
  try clear hX0 hX X
  intros
  refine hK _ _ _ ?_
  clear hK hGc hGh
  clear K Gc Gh
  repeat refine pw_seq ?_
  refine pw_ct (by simp) ?_
  repeat refine pw_seq ?_
  refine pw_N [] (by rfl) (by rfl) fun K Gc Gh hK hGc hGh X hX0 hX => ?_
  simp -implicitDefEqProofs [hX0, hX]
  try clear hX0 hX X
  intros
  refine hK _ _ _ ?_
  clear hK hGc hGh
  clear K Gc Gh
  repeat refine pw_seq ?_
  exact pw_ret (ret_pure hd (by simp; rfl) rfl)

end Go.Proofs.YtlkcdaeknioanaaGreat.Pv
