/- The document's great numbers (tranterref01), as far as sums of what is not below 0 go; tranterref09.sat. -/
import Derived.Test.YtlkcdaeknioanaaGreatLj
namespace Go.Proofs.YtlkcdaeknioanaaGreat.Pv
open Go

def digits (n : Nat) : List Int := if h : n = 0 then [] else ((n % 65536 : Nat) : Int) :: digits (n / 65536)
termination_by n
decreasing_by omega
theorem digits_zero : digits 0 = [] := by rw [digits]; simp
theorem digits_pos {n : Nat} (h : n ≠ 0) : digits n = ((n % 65536 : Nat) : Int) :: digits (n / 65536) := by rw [digits]; simp [h]

def valD : List Int → Int
  | [] => 0
  | d :: l => d + 65536 * valD l
def Digs (l : List Int) : Prop := ∀ d ∈ l, 0 ≤ d ∧ d < 65536
def tight : List Int → Prop
  | [] => True
  | [d] => d ≠ 0
  | _ :: e :: l => tight (e :: l)

theorem digits_ok : ∀ n : Nat, Digs (digits n) ∧ valD (digits n) = n ∧ tight (digits n) ∧ (n < 65536 ^ 4 → (digits n).length ≤ 4) := by
  intro n
  induction n using Nat.strongRecOn with
  | _ n ih =>
    by_cases h : n = 0
    · subst h; rw [digits_zero]; exact ⟨fun d hd => (nomatch hd), rfl, trivial, by simp⟩
    · obtain ⟨h1, h2, h3, _⟩ := ih (n / 65536) (by omega)
      rw [digits_pos h]
      refine ⟨?_, ?_, ?_, ?_⟩
      · intro d hd
        rcases List.mem_cons.1 hd with rfl | hd
        · omega
        · exact h1 d hd
      · simp only [valD, h2]; omega
      · cases hl : digits (n / 65536) with
        | nil =>
          rw [hl] at h2
          simp only [valD] at h2
          simp only [tight]; omega
        | cons e l => rw [hl] at h3; exact h3
      · intro hlt
        have : ∀ m : Nat, ∀ k : Nat, m < 65536 ^ k → (digits m).length ≤ k := by
          intro m k
          induction k generalizing m with
          | zero => intro hm; simp at hm; subst hm; rw [digits_zero]; simp
          | succ k ihk =>
            intro hm
            by_cases h0 : m = 0
            · subst h0; rw [digits_zero]; simp
            · rw [digits_pos h0]
              have := ihk (m / 65536) (by rw [Nat.pow_succ] at hm; exact Nat.div_lt_of_lt_mul (by rw [Nat.mul_comm]; exact hm))
              simp; exact this
        have := this n 4 hlt
        rw [digits_pos h] at this
        exact this

theorem valD_nonneg {l : List Int} (h : Digs l) : 0 ≤ valD l := by
  induction l with
  | nil => simp [valD]
  | cons d l ih =>
    have h1 := h d (by simp)
    have h2 := ih fun x hx => h x (by simp [hx])
    simp only [valD]; omega

theorem valD_app (a b : List Int) : valD (a ++ b) = valD a + 65536 ^ a.length * valD b := by
  induction a with
  | nil => simp [valD]
  | cons d a ih => simp only [List.cons_append, valD, ih, List.length_cons, Int.pow_succ]; rw [Int.mul_add, Int.mul_comm (65536 ^ a.length) 65536, Int.mul_assoc]; omega

theorem digits_uniq : ∀ {l : List Int}, Digs l → tight l → l = digits (valD l).toNat := by
  intro l
  induction l with
  | nil => intro _ _; simp only [valD]; exact digits_zero.symm
  | cons d l ih =>
    intro h ht
    have h1 := h d (by simp)
    have hl : Digs l := fun x hx => h x (by simp [hx])
    have h2 := valD_nonneg hl
    cases l with
    | nil =>
      simp only [tight] at ht
      simp only [valD]
      rw [digits_pos (by omega)]
      have e1 : (d + 65536 * 0).toNat / 65536 = 0 := by omega
      rw [e1, digits_zero]
      congr 1; omega
    | cons e l =>
      have := ih hl ht
      have hpos : valD (e :: l) ≠ 0 := by
        intro h0
        rw [h0] at this
        rw [show (0 : Int).toNat = 0 from rfl, digits_zero] at this
        cases this
      have ev : valD (d :: e :: l) = d + 65536 * valD (e :: l) := rfl
      rw [ev, digits_pos (by omega)]
      have e1 : (d + 65536 * valD (e :: l)).toNat / 65536 = (valD (e :: l)).toNat := by omega
      rw [e1, ← this]
      congr 1; omega

set_option maxRecDepth 20000 in
theorem ofB_ok (n : Int) (hn : I64 n) : Pure Tryz.prog 90 [I n] (.agg [L (digits n.natAbs), B (decide (n < 0))]) := by
  unfold I64 at hn
  have hd4 := (digits_ok n.natAbs).2.2.2 (by rw [show (65536 : Nat) ^ 4 = 18446744073709551616 from by decide]; omega)
  refine pure_enter Tryz.func90 (by rfl) rfl Tryz.ntmps90 (congrArg Array.toList Tryz.results90) (by simp) fun S nx hd => ?_
  repeat refine pw_seq ?_
  refine pw_N [] (by rfl) (by rfl) fun K Gc Gh hK hGc hGh X hX0 hX => ?_
  simp -implicitDefEqProofs [hX0, hX]
  try clear hX0 hX X
  intro v0
  refine hK _ _ _ ?_
  clear hK hGc hGh
  clear K Gc Gh
  repeat refine pw_seq ?_
  refine pw_N [] (by rfl) (by rfl) fun K Gc Gh hK hGc hGh X hX0 hX => ?_
  simp -implicitDefEqProofs [hX0, hX]
  try clear hX0 hX X
  intro v1
  refine hK _ _ _ ?_
  clear hK hGc hGh
  clear K Gc Gh
  repeat refine pw_seq ?_
  refine pw_N [] (by rfl) (by rfl) fun K Gc Gh hK hGc hGh X hX0 hX => ?_
  simp -implicitDefEqProofs [hX0, hX]
  try clear hX0 hX X
  intros
  refine hK _ _ _ ?_
  clear hK hGc hGh
  clear K Gc Gh
  refine pw_seq (pw_nilObX 1 0 3 1 rfl rfl fun v2 => ?_)
  repeat refine pw_seq ?_
  refine pw_block (pw_loopL (fun s : Int × List Int × Nat => digits n.natAbs = s.2.1 ++ digits s.1.natAbs ∧ (-9223372036854775808 ≤ s.1 ∧ s.1 ≤ 9223372036854775807)) (fun (m, out, v2) => [(0, I m), (2, .ptr nx v0 0), (3, .ptr (nx + 1) v1 0)])
    (fun (m, out, v2) => [.cells v0 138 [.sc (.slice none 0 0), B false], .cells v1 138 [.sl (nx + 2) v2 1 0 out.length, B (decide (n < 0))], .cells v2 3 (out.flatMap Enc.enc)]) (fun s => s.1.natAbs) (n, [], v2) [] (by simp; exact hn) (by simp) (by simp) ?_)
  rintro ⟨m, out, v2⟩ ⟨ho, hm⟩
  simp only at ho hm ⊢
  by_cases h0 : m = 0
  · subst h0
    rw [show (0 : Int).natAbs = 0 from rfl, digits_zero, List.append_nil] at ho
    repeat refine pw_seq ?_
    refine pw_N [] (by rfl) (by rfl) fun K Gc Gh hK hGc hGh X hX0 hX => ?_
    simp -implicitDefEqProofs [hX0, hX]
    try clear hX0 hX X
    intros
    refine hK _ _ _ ?_
    clear hK hGc hGh
    clear K Gc Gh
    repeat refine pw_seq ?_
    refine pw_cf rfl ?_
    refine pw_exit ?_
    repeat refine pw_seq ?_
    refine pw_N [] (by rfl) (by rfl) fun K Gc Gh hK hGc hGh X hX0 hX => ?_
    simp -implicitDefEqProofs [hX0, hX]
    try clear hX0 hX X
    intros
    refine hK _ _ _ ?_
    clear hK hGc hGh
    clear K Gc Gh
    refine pw_frz 2 rfl ?_
    repeat refine pw_seq ?_
    exact pw_ret (ret_pure hd (by simp; rfl) (by rw [ho]; simp [oneOf]))
  · repeat refine pw_seq ?_
    refine pw_N [] (by rfl) (by rfl) fun K Gc Gh hK hGc hGh X hX0 hX => ?_
    simp -implicitDefEqProofs [hX0, hX, h0]
    try clear hX0 hX X
    intros
    refine hK _ _ _ ?_
    clear hK hGc hGh
    clear K Gc Gh
    repeat refine pw_seq ?_
    refine pw_ct (by simp) ?_
    refine pw_skip (pw_block ?_)
    have hdm : digits m.natAbs = ((m.natAbs % 65536 : Nat) : Int) :: digits (m.tdiv 65536).natAbs := by
      rw [digits_pos (by omega)]
      congr 2
      rw [Int.natAbs_tdiv]; rfl
    rw [hdm] at ho
    have hol : out.length ≤ 4 := by rw [ho] at hd4; simp at hd4; omega
    have hq : (m.tdiv 65536).natAbs = m.natAbs / 65536 := by rw [Int.natAbs_tdiv]; rfl
    have hq2 : -9223372036854775808 ≤ m.tdiv 65536 ∧ m.tdiv 65536 ≤ 9223372036854775807 := by omega
    have w1 : IntKind.i64.wrap (m.tdiv 65536) = m.tdiv 65536 := wr _ hq2.1 hq2.2
    repeat refine pw_seq ?_
    refine pw_N [] (by rfl) (by rfl) fun K Gc Gh hK hGc hGh X hX0 hX => ?_
    simp -implicitDefEqProofs [hX0, hX]
    try clear hX0 hX X
    intros
    refine hK _ _ _ ?_
    clear hK hGc hGh
    clear K Gc Gh
    repeat refine pw_seq ?_
    refine pw_N [] (by rfl) (by rfl) fun K Gc Gh hK hGc hGh X hX0 hX => ?_
    simp -implicitDefEqProofs [hX0, hX]
    try clear hX0 hX X
    intros
    refine hK _ _ _ ?_
    clear hK hGc hGh
    clear K Gc Gh
    by_cases hneg : m.tmod 65536 < 0
    · have e1 : -(m.tmod 65536) = ((m.natAbs % 65536 : Nat) : Int) := by
        have := Int.natAbs_tmod m 65536
        have e : (65536 : Int).natAbs = 65536 := rfl
        rw [e] at this; omega
      have w2 : IntKind.i64.wrap (-(m.tmod 65536)) = ((m.natAbs % 65536 : Nat) : Int) := by rw [wr _ (by omega) (by omega)]; exact e1
      repeat refine pw_seq ?_
      refine pw_ct (by simp [hneg]) ?_
      repeat refine pw_seq ?_
      refine pw_N [] (by rfl) (by rfl) fun K Gc Gh hK hGc hGh X hX0 hX => ?_
      simp -implicitDefEqProofs [hX0, hX, w2]
      try clear hX0 hX X
      intros
      refine hK _ _ _ ?_
      clear hK hGc hGh
      clear K Gc Gh
      repeat refine pw_seq ?_
      refine pw_N [] (by rfl) (by rfl) fun K Gc Gh hK hGc hGh X hX0 hX => ?_
      simp -implicitDefEqProofs [hX0, hX]
      try clear hX0 hX X
      refine ⟨by omega, ?_⟩
      intros
      refine hK _ _ _ ?_
      clear hK hGc hGh
      clear K Gc Gh
      repeat refine pw_seq ?_
      refine pw_N [] (by rfl) (by rfl) fun K Gc Gh hK hGc hGh X hX0 hX => ?_
      simp -implicitDefEqProofs [hX0, hX, w1]
      try clear hX0 hX X
      intros
      refine hK _ _ _ ?_
      clear hK hGc hGh
      clear K Gc Gh
      exact again_mk (m.tdiv 65536, out ++ [((m.natAbs % 65536 : Nat) : Int)], v2 + 1) [] ⟨by rw [ho]; simp, hq2⟩ (by dsimp only; omega) (by simp) rfl (by simp)
    · have e1 : m.tmod 65536 = ((m.natAbs % 65536 : Nat) : Int) := by
        have := Int.natAbs_tmod m 65536
        have e : (65536 : Int).natAbs = 65536 := rfl
        rw [e] at this; omega
      repeat refine pw_seq ?_
      refine pw_cf (by simp; omega) ?_
      refine pw_skip ?_
      repeat refine pw_seq ?_
      refine pw_N [] (by rfl) (by rfl) fun K Gc Gh hK hGc hGh X hX0 hX => ?_
      simp -implicitDefEqProofs [hX0, hX, e1]
      try clear hX0 hX X
      refine ⟨by omega, ?_⟩
      intros
      refine hK _ _ _ ?_
      clear hK hGc hGh
      clear K Gc Gh
      repeat refine pw_seq ?_
      refine pw_N [] (by rfl) (by rfl) fun K Gc Gh hK hGc hGh X hX0 hX => ?_
      simp -implicitDefEqProofs [hX0, hX, w1]
      try clear hX0 hX X
      intros
      refine hK _ _ _ ?_
      clear hK hGc hGh
      clear K Gc Gh
      exact again_mk (m.tdiv 65536, out ++ [((m.natAbs % 65536 : Nat) : Int)], v2 + 1) [] ⟨by rw [ho]; simp, hq2⟩ (by dsimp only; omega) (by simp) rfl (by simp)

/-- A sum of digits, with what is carried. -/
def plusD : List Int → List Int → Int → List Int
  | [], [], c => if 0 < c then [c] else []
  | a :: u, [], c => (a + c) % 65536 :: plusD u [] ((a + c) / 65536)
  | [], b :: bs, c => (b + c) % 65536 :: plusD [] bs ((b + c) / 65536)
  | a :: u, b :: bs, c => (a + b + c) % 65536 :: plusD u bs ((a + b + c) / 65536)

theorem plusD_ok : ∀ (a b : List Int) (c : Int), Digs a → Digs b → 0 ≤ c → c ≤ 1 → Digs (plusD a b c) ∧ valD (plusD a b c) = valD a + valD b + c ∧ (plusD a b c).length ≤ max a.length b.length + 1 := by
  intro a
  induction a with
  | nil =>
    intro b
    induction b with
    | nil =>
      intro c _ _ h0 h1
      simp only [plusD]
      split
      · refine ⟨?_, by simp [valD], by simp⟩
        intro d hd; simp at hd; omega
      · refine ⟨by intro d hd; simp at hd, by simp [valD]; omega, by simp⟩
    | cons b bs ih =>
      intro c ha hb h0 h1
      have hb1 := hb b (by simp)
      obtain ⟨q1, q2, q3⟩ := ih ((b + c) / 65536) ha (fun x hx => hb x (by simp [hx])) (by omega) (by omega)
      simp only [plusD]
      refine ⟨?_, by simp only [valD] at q2 ⊢; rw [q2]; omega, by simp at q3 ⊢; omega⟩
      intro d hd
      rcases List.mem_cons.1 hd with rfl | hd
      · omega
      · exact q1 d hd
  | cons a u iha =>
    intro b
    cases b with
    | nil =>
      intro c ha hb h0 h1
      have ha1 := ha a (by simp)
      obtain ⟨q1, q2, q3⟩ := iha [] ((a + c) / 65536) (fun x hx => ha x (by simp [hx])) hb (by omega) (by omega)
      simp only [plusD]
      refine ⟨?_, by simp only [valD] at q2 ⊢; rw [q2]; omega, by simp at q3 ⊢; omega⟩
      intro d hd
      rcases List.mem_cons.1 hd with rfl | hd
      · omega
      · exact q1 d hd
    | cons b bs =>
      intro c ha hb h0 h1
      have ha1 := ha a (by simp)
      have hb1 := hb b (by simp)
      obtain ⟨q1, q2, q3⟩ := iha bs ((a + b + c) / 65536) (fun x hx => ha x (by simp [hx])) (fun x hx => hb x (by simp [hx])) (by omega) (by omega)
      simp only [plusD]
      refine ⟨?_, by simp only [valD] at q2 ⊢; rw [q2]; omega, by simp at q3 ⊢; omega⟩
      intro d hd
      rcases List.mem_cons.1 hd with rfl | hd
      · omega
      · exact q1 d hd

theorem plusD_step (a b : List Int) (c : Int) (h : a ≠ [] ∨ b ≠ [] ∨ 0 < c) : plusD a b c = (a.headD 0 + b.headD 0 + c) % 65536 :: plusD a.tail b.tail ((a.headD 0 + b.headD 0 + c) / 65536) ∨ (a = [] ∧ b = [] ∧ plusD a b c = [c]) := by
  cases a with
  | nil =>
    cases b with
    | nil => right; simp at h; simp [plusD, h]
    | cons b bs => left; simp [plusD]
  | cons a u =>
    cases b with
    | nil => left; simp [plusD]
    | cons b bs => left; simp [plusD]

theorem hd_drop (l : List Int) (k : Nat) : (l.drop k).headD 0 = l.getD k 0 := by simp [List.headD_eq_head?_getD, List.head?_drop, List.getD_eq_getElem?_getD]

set_option maxRecDepth 20000 in
theorem plus_ok (a b : List Int) (ha : Digs a) (hb : Digs b) (hal : a.length ≤ 1000) (hbl : b.length ≤ 1000) : Pure Tryz.prog 115 [L a, L b] (L (plusD a b 0)) := by
  refine pure_enter Tryz.func115 (by rfl) rfl Tryz.ntmps115 (congrArg Array.toList Tryz.results115) (by simp) fun S nx hd => ?_
  repeat refine pw_seq ?_
  refine pw_N [] (by rfl) (by rfl) fun K Gc Gh hK hGc hGh X hX0 hX => ?_
  simp -implicitDefEqProofs [hX0, hX]
  try clear hX0 hX X
  intros
  refine hK _ _ _ ?_
  clear hK hGc hGh
  clear K Gc Gh
  repeat refine pw_seq ?_
  refine pw_N [] (by rfl) (by rfl) fun K Gc Gh hK hGc hGh X hX0 hX => ?_
  simp -implicitDefEqProofs [hX0, hX]
  try clear hX0 hX X
  intros
  refine hK _ _ _ ?_
  clear hK hGc hGh
  clear K Gc Gh
  refine pw_seq (pw_nilX 5 3 1 rfl fun v1 => ?_)
  repeat refine pw_seq ?_
  refine pw_N [] (by rfl) (by rfl) fun K Gc Gh hK hGc hGh X hX0 hX => ?_
  simp -implicitDefEqProofs [hX0, hX]
  try clear hX0 hX X
  intros
  refine hK _ _ _ ?_
  clear hK hGc hGh
  clear K Gc Gh
  repeat refine pw_seq ?_
  refine pw_N [] (by rfl) (by rfl) fun K Gc Gh hK hGc hGh X hX0 hX => ?_
  simp -implicitDefEqProofs [hX0, hX]
  try clear hX0 hX X
  intros
  refine hK _ _ _ ?_
  clear hK hGc hGh
  clear K Gc Gh
  repeat refine pw_seq ?_
  refine pw_block (pw_loopL (fun s : Nat × Int × List Int × Nat => s.1 ≤ max a.length b.length + 1 ∧ (0 ≤ s.2.1 ∧ s.2.1 ≤ 1) ∧ s.2.2.1.length = s.1 ∧ plusD a b 0 = s.2.2.1 ++ plusD (a.drop s.1) (b.drop s.1) s.2.1 ∧ (s.1 = max a.length b.length + 1 → s.2.1 = 0)) (fun (k, c, out, v1) => [(0, L a), (1, L b), (5, .sl nx v1 1 0 out.length), (6, I c), (7, I k)])
    (fun (k, c, out, v1) => [.cells v1 3 (out.flatMap Enc.enc)]) (fun s => max a.length b.length + 1 - s.1) (0, 0, [], v1) [] (by simp) (by simp) (by simp) ?_)
  rintro ⟨k, c, out, v1⟩ ⟨hk, hc, hol, ho, hend⟩
  simp only at hk hc hol ho hend ⊢
  by_cases hlive : k < a.length ∨ k < b.length ∨ 0 < c
  · have hkl : k < max a.length b.length + 1 := by
      rcases Nat.lt_or_ge k (max a.length b.length + 1) with h | h
      · exact h
      · have := hend (by omega); omega
    -- the sum at this place
    have hx : 0 ≤ a.getD k 0 ∧ a.getD k 0 < 65536 := by
      rw [List.getD_eq_getElem?_getD]
      cases h : a[k]? with
      | none => simp
      | some x => exact ha x (List.mem_of_getElem? h)
    have hy : 0 ≤ b.getD k 0 ∧ b.getD k 0 < 65536 := by
      rw [List.getD_eq_getElem?_getD]
      cases h : b[k]? with
      | none => simp
      | some x => exact hb x (List.mem_of_getElem? h)
    generalize hxx : a.getD k 0 = x at hx
    generalize hyy : b.getD k 0 = y at hy
    have hnext : ∀ s, s = c + x + y → plusD a b 0 = (out ++ [s % 65536]) ++ plusD (a.drop (k + 1)) (b.drop (k + 1)) (s / 65536) ∧ (k + 1 = max a.length b.length + 1 → s / 65536 = 0) := by
      rintro s rfl
      have hne : a.drop k ≠ [] ∨ b.drop k ≠ [] ∨ 0 < c := by
        rcases hlive with h | h | h
        · left; intro e; have := List.drop_eq_nil_iff.1 e; omega
        · right; left; intro e; have := List.drop_eq_nil_iff.1 e; omega
        · exact .inr (.inr h)
      have hsum : (a.drop k).headD 0 + (b.drop k).headD 0 + c = c + x + y := by rw [hd_drop, hd_drop, hxx, hyy]; omega
      have h0 : k + 1 = max a.length b.length + 1 → c + x + y = c := by
        intro q
        have e1 : x = 0 := by rw [← hxx, List.getD_eq_getElem?_getD, List.getElem?_eq_none (by omega)]; rfl
        have e2 : y = 0 := by rw [← hyy, List.getD_eq_getElem?_getD, List.getElem?_eq_none (by omega)]; rfl
        omega
      refine ⟨?_, fun q => by have := h0 q; omega⟩
      rcases plusD_step (a.drop k) (b.drop k) c hne with e | ⟨e1, e2, e3⟩
      · rw [ho, e, hsum]
        simp [List.tail_drop]
      · have hx0 : x = 0 := by rw [← hxx, ← hd_drop, e1]; rfl
        have hy0 : y = 0 := by rw [← hyy, ← hd_drop, e2]; rfl
        have d1 : a.drop (k + 1) = [] := by rw [← List.drop_drop, e1]; rfl
        have d2 : b.drop (k + 1) = [] := by rw [← List.drop_drop, e2]; rfl
        have z1 : (c + x + y) % 65536 = c := by omega
        have z2 : (c + x + y) / 65536 = 0 := by omega
        rw [ho, e3, d1, d2, z1, z2]; simp [plusD]
    have fin : ∀ s : Int, s = c + x + y → s.tmod 65536 = s % 65536 ∧ IntKind.i64.wrap (s.tdiv 65536) = s / 65536 := by
      intro s hs
      refine ⟨Int.tmod_eq_emod_of_nonneg (by omega), ?_⟩
      rw [Int.tdiv_eq_ediv_of_nonneg (by omega), wr _ (by omega) (by omega)]
    obtain ⟨f1, f2⟩ := fin _ rfl
    obtain ⟨g1, g2⟩ := hnext _ rfl
    have wa : IntKind.i64.wrap (c + x) = c + x := wr _ (by omega) (by omega)
    have wb : IntKind.i64.wrap (c + x + y) = c + x + y := wr _ (by omega) (by omega)
    by_cases h1 : k < a.length
    · obtain ⟨x', tl, a1, a2, a3, e0⟩ := el1 rfl a k h1
      obtain rfl : x' = x := by rw [← hxx, List.getD_eq_getElem?_getD, a1]; rfl
      repeat refine pw_seq ?_
      refine pw_N [(4, 12), (10, 18)] (by rfl) (by rfl) fun K Gc Gh hK hGc hGh X hX0 hX => ?_
      simp -implicitDefEqProofs [hX0, hX, h1, undef]
      try clear hX0 hX X
      intros
      refine hK _ _ _ ?_
      clear hK hGc hGh
      clear K Gc Gh
      repeat refine pw_seq ?_
      refine pw_ct (by simp) ?_
      refine pw_skip (pw_seq (pw_block ?_))
      repeat refine pw_seq ?_
      refine pw_N [] (by rfl) (by rfl) fun K Gc Gh hK hGc hGh X hX0 hX => ?_
      simp -implicitDefEqProofs [hX0, hX]
      try clear hX0 hX X
      intros
      refine hK _ _ _ ?_
      clear hK hGc hGh
      clear K Gc Gh
      repeat refine pw_seq ?_
      refine pw_ct (by simp [h1]) ?_
      repeat refine pw_seq ?_
      refine pw_N [] (by rfl) (by rfl) fun K Gc Gh hK hGc hGh X hX0 hX => ?_
      simp -implicitDefEqProofs [hX0, hX, e0, h1, wa]
      try clear hX0 hX X
      intros
      refine hK _ _ _ ?_
      clear hK hGc hGh
      clear K Gc Gh
      by_cases h2 : k < b.length
      · obtain ⟨y', tl2, b1, b2, b3, e2⟩ := el1 rfl b k h2
        obtain rfl : y' = y := by rw [← hyy, List.getD_eq_getElem?_getD, b1]; rfl
        repeat refine pw_seq ?_
        refine pw_N [] (by rfl) (by rfl) fun K Gc Gh hK hGc hGh X hX0 hX => ?_
        simp -implicitDefEqProofs [hX0, hX]
        try clear hX0 hX X
        intros
        refine hK _ _ _ ?_
        clear hK hGc hGh
        clear K Gc Gh
        repeat refine pw_seq ?_
        refine pw_ct (by simp [h2]) ?_
        repeat refine pw_seq ?_
        refine pw_N [] (by rfl) (by rfl) fun K Gc Gh hK hGc hGh X hX0 hX => ?_
        simp -implicitDefEqProofs [hX0, hX, e2, h2, wb]
        try clear hX0 hX X
        intros
        refine hK _ _ _ ?_
        clear hK hGc hGh
        clear K Gc Gh
        repeat refine pw_seq ?_
        refine pw_N [] (by rfl) (by rfl) fun K Gc Gh hK hGc hGh X hX0 hX => ?_
        simp -implicitDefEqProofs [hX0, hX, f1]
        try clear hX0 hX X
        refine ⟨by omega, ?_⟩
        intros
        refine hK _ _ _ ?_
        clear hK hGc hGh
        clear K Gc Gh
        repeat refine pw_seq ?_
        refine pw_N [] (by rfl) (by rfl) fun K Gc Gh hK hGc hGh X hX0 hX => ?_
        simp -implicitDefEqProofs [hX0, hX, f2]
        try clear hX0 hX X
        intros
        refine hK _ _ _ ?_
        clear hK hGc hGh
        clear K Gc Gh
        repeat refine pw_seq ?_
        refine pw_N [] (by rfl) (by rfl) fun K Gc Gh hK hGc hGh X hX0 hX => ?_
        simp -implicitDefEqProofs [hX0, hX]
        try clear hX0 hX X
        intros
        refine hK _ _ _ ?_
        clear hK hGc hGh
        clear K Gc Gh
        exact again_mk (k + 1, (c + x' + y') / 65536, out ++ [(c + x' + y') % 65536], v1 + 1) [] ⟨by omega, by dsimp only; omega, by simp [hol], g1, g2⟩ (by simp; omega) (by simp [wrN k (by omega)]) rfl (by simp)
      · obtain rfl : y = 0 := by rw [← hyy, List.getD_eq_getElem?_getD, List.getElem?_eq_none (by omega)]; rfl
        rw [Int.add_zero] at f1 f2 g1 g2
        repeat refine pw_seq ?_
        refine pw_N [] (by rfl) (by rfl) fun K Gc Gh hK hGc hGh X hX0 hX => ?_
        simp -implicitDefEqProofs [hX0, hX]
        try clear hX0 hX X
        intros
        refine hK _ _ _ ?_
        clear hK hGc hGh
        clear K Gc Gh
        repeat refine pw_seq ?_
        refine pw_cf (by simp; omega) ?_
        refine pw_skip ?_
        repeat refine pw_seq ?_
        refine pw_N [] (by rfl) (by rfl) fun K Gc Gh hK hGc hGh X hX0 hX => ?_
        simp -implicitDefEqProofs [hX0, hX, f1]
        try clear hX0 hX X
        refine ⟨by omega, ?_⟩
        intros
        refine hK _ _ _ ?_
        clear hK hGc hGh
        clear K Gc Gh
        repeat refine pw_seq ?_
        refine pw_N [] (by rfl) (by rfl) fun K Gc Gh hK hGc hGh X hX0 hX => ?_
        simp -implicitDefEqProofs [hX0, hX, f2]
        try clear hX0 hX X
        intros
        refine hK _ _ _ ?_
        clear hK hGc hGh
        clear K Gc Gh
        repeat refine pw_seq ?_
        refine pw_N [] (by rfl) (by rfl) fun K Gc Gh hK hGc hGh X hX0 hX => ?_
        simp -implicitDefEqProofs [hX0, hX]
        try clear hX0 hX X
        intros
        refine hK _ _ _ ?_
        clear hK hGc hGh
        clear K Gc Gh
        exact again_mk (k + 1, (c + x') / 65536, out ++ [(c + x') % 65536], v1 + 1) [] ⟨by omega, by dsimp only; omega, by simp [hol], g1, g2⟩ (by simp; omega) (by simp [wrN k (by omega)]) rfl (by simp)
    · obtain rfl : x = 0 := by rw [← hxx, List.getD_eq_getElem?_getD, List.getElem?_eq_none (by omega)]; rfl
      by_cases h2 : k < b.length
      · obtain ⟨y', tl2, b1, b2, b3, e2⟩ := el1 rfl b k h2
        obtain rfl : y' = y := by rw [← hyy, List.getD_eq_getElem?_getD, b1]; rfl
        have f1' : (c + y').tmod 65536 = (c + y') % 65536 := by rw [show c + y' = c + 0 + y' by omega]; exact f1
        have f2' : IntKind.i64.wrap ((c + y').tdiv 65536) = (c + y') / 65536 := by rw [show c + y' = c + 0 + y' by omega]; exact f2
        have wb' : IntKind.i64.wrap (c + y') = c + y' := wr _ (by omega) (by omega)
        rw [show c + 0 + y' = c + y' by omega] at g1 g2
        repeat refine pw_seq ?_
        refine pw_N [(4, 12), (10, 18)] (by rfl) (by rfl) fun K Gc Gh hK hGc hGh X hX0 hX => ?_
        simp -implicitDefEqProofs [hX0, hX, h1, h2, undef]
        try clear hX0 hX X
        intros
        refine hK _ _ _ ?_
        clear hK hGc hGh
        clear K Gc Gh
        repeat refine pw_seq ?_
        refine pw_ct (by simp) ?_
        refine pw_skip (pw_seq (pw_block ?_))
        repeat refine pw_seq ?_
        refine pw_N [] (by rfl) (by rfl) fun K Gc Gh hK hGc hGh X hX0 hX => ?_
        simp -implicitDefEqProofs [hX0, hX]
        try clear hX0 hX X
        intros
        refine hK _ _ _ ?_
        clear hK hGc hGh
        clear K Gc Gh
        repeat refine pw_seq ?_
        refine pw_cf (by simp; omega) ?_
        refine pw_skip ?_
        repeat refine pw_seq ?_
        refine pw_N [] (by rfl) (by rfl) fun K Gc Gh hK hGc hGh X hX0 hX => ?_
        simp -implicitDefEqProofs [hX0, hX]
        try clear hX0 hX X
        intros
        refine hK _ _ _ ?_
        clear hK hGc hGh
        clear K Gc Gh
        repeat refine pw_seq ?_
        refine pw_ct (by simp [h2]) ?_
        repeat refine pw_seq ?_
        refine pw_N [] (by rfl) (by rfl) fun K Gc Gh hK hGc hGh X hX0 hX => ?_
        simp -implicitDefEqProofs [hX0, hX, e2, h2, wb']
        try clear hX0 hX X
        intros
        refine hK _ _ _ ?_
        clear hK hGc hGh
        clear K Gc Gh
        repeat refine pw_seq ?_
        refine pw_N [] (by rfl) (by rfl) fun K Gc Gh hK hGc hGh X hX0 hX => ?_
        simp -implicitDefEqProofs [hX0, hX, f1']
        try clear hX0 hX X
        refine ⟨by omega, ?_⟩
        intros
        refine hK _ _ _ ?_
        clear hK hGc hGh
        clear K Gc Gh
        repeat refine pw_seq ?_
        refine pw_N [] (by rfl) (by rfl) fun K Gc Gh hK hGc hGh X hX0 hX => ?_
        simp -implicitDefEqProofs [hX0, hX, f2']
        try clear hX0 hX X
        intros
        refine hK _ _ _ ?_
        clear hK hGc hGh
        clear K Gc Gh
        repeat refine pw_seq ?_
        refine pw_N [] (by rfl) (by rfl) fun K Gc Gh hK hGc hGh X hX0 hX => ?_
        simp -implicitDefEqProofs [hX0, hX]
        try clear hX0 hX X
        intros
        refine hK _ _ _ ?_
        clear hK hGc hGh
        clear K Gc Gh
        exact again_mk (k + 1, (c + y') / 65536, out ++ [(c + y') % 65536], v1 + 1) [] ⟨by omega, by dsimp only; omega, by simp [hol], g1, g2⟩ (by simp; omega) (by simp [wrN k (by omega)]) rfl (by simp)
      · obtain rfl : y = 0 := by rw [← hyy, List.getD_eq_getElem?_getD, List.getElem?_eq_none (by omega)]; rfl
        have h3 : 0 < c := by omega
        obtain rfl : c = 1 := by omega
        rw [show (1 : Int) + 0 + 0 = 1 by rfl] at f1 f2 g1 g2
        repeat refine pw_seq ?_
        refine pw_N [(4, 12), (10, 18)] (by rfl) (by rfl) fun K Gc Gh hK hGc hGh X hX0 hX => ?_
        simp -implicitDefEqProofs [hX0, hX, h1, h2]
        try clear hX0 hX X
        intros
        refine hK _ _ _ ?_
        clear hK hGc hGh
        clear K Gc Gh
        repeat refine pw_seq ?_
        refine pw_ct (by simp) ?_
        refine pw_skip (pw_seq (pw_block ?_))
        repeat refine pw_seq ?_
        refine pw_N [] (by rfl) (by rfl) fun K Gc Gh hK hGc hGh X hX0 hX => ?_
        simp -implicitDefEqProofs [hX0, hX]
        try clear hX0 hX X
        intros
        refine hK _ _ _ ?_
        clear hK hGc hGh
        clear K Gc Gh
        repeat refine pw_seq ?_
        refine pw_cf (by simp; omega) ?_
        refine pw_skip ?_
        repeat refine pw_seq ?_
        refine pw_N [] (by rfl) (by rfl) fun K Gc Gh hK hGc hGh X hX0 hX => ?_
        simp -implicitDefEqProofs [hX0, hX]
        try clear hX0 hX X
        intros
        refine hK _ _ _ ?_
        clear hK hGc hGh
        clear K Gc Gh
        repeat refine pw_seq ?_
        refine pw_cf (by simp; omega) ?_
        refine pw_skip ?_
        repeat refine pw_seq ?_
        refine pw_N [] (by rfl) (by rfl) fun K Gc Gh hK hGc hGh X hX0 hX => ?_
        simp -implicitDefEqProofs [hX0, hX, f1]
        try clear hX0 hX X
        refine ⟨by omega, ?_⟩
        intros
        refine hK _ _ _ ?_
        clear hK hGc hGh
        clear K Gc Gh
        repeat refine pw_seq ?_
        refine pw_N [] (by rfl) (by rfl) fun K Gc Gh hK hGc hGh X hX0 hX => ?_
        simp -implicitDefEqProofs [hX0, hX]
        try clear hX0 hX X
        intros
        refine hK _ _ _ ?_
        clear hK hGc hGh
        clear K Gc Gh
        repeat refine pw_seq ?_
        refine pw_N [] (by rfl) (by rfl) fun K Gc Gh hK hGc hGh X hX0 hX => ?_
        simp -implicitDefEqProofs [hX0, hX]
        try clear hX0 hX X
        intros
        refine hK _ _ _ ?_
        clear hK hGc hGh
        clear K Gc Gh
        exact again_mk (k + 1, (1 : Int) / 65536, out ++ [(1 : Int) % 65536], v1 + 1) [] ⟨by omega, by dsimp only; omega, by simp [hol], g1, g2⟩ (by simp; omega) (by simp [wrN k (by omega)]) rfl (by simp)
  · have h1 : ¬ k < a.length := by omega
    have h2 : ¬ k < b.length := by omega
    have h3 : ¬ 0 < c := by omega
    rw [List.drop_of_length_le (by omega), List.drop_of_length_le (by omega)] at ho
    simp only [plusD, h3, if_false, List.append_nil] at ho
    repeat refine pw_seq ?_
    refine pw_N [(4, 12), (10, 18)] (by rfl) (by rfl) fun K Gc Gh hK hGc hGh X hX0 hX => ?_
    simp -implicitDefEqProofs [hX0, hX, h1, h2, h3]
    try clear hX0 hX X
    intros
    refine hK _ _ _ ?_
    clear hK hGc hGh
    clear K Gc Gh
    repeat refine pw_seq ?_
    refine pw_cf (by simp) ?_
    refine pw_exit ?_
    repeat refine pw_seq ?_
    refine pw_N [] (by rfl) (by rfl) fun K Gc Gh hK hGc hGh X hX0 hX => ?_
    simp -implicitDefEqProofs [hX0, hX]
    try clear hX0 hX X
    intros
    refine hK _ _ _ ?_
    clear hK hGc hGh
    clear K Gc Gh
    refine pw_frz 0 rfl ?_
    repeat refine pw_seq ?_
    exact pw_ret (ret_pure hd (by simp; rfl) (by rw [ho]; simp [oneOf]))

end Go.Proofs.YtlkcdaeknioanaaGreat.Pv
