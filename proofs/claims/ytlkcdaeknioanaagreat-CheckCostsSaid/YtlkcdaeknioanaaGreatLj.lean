/- Tanks, further (stock.Holds, Held, Brings; num.Add, Sat, Clip). -/
import Derived.Test.YtlkcdaeknioanaaGreatLi
import Derived.Test.YtlkcdaeknioanaaGreatJa
namespace Go.Proofs.YtlkcdaeknioanaaGreat.Pv
open Go

def fillB (rate size : Int) : List Int → List Int → Bool
  | z :: q, n :: l => decide (0 < z ∧ n + rate ≠ size) || fillB rate size q l
  | _, _ => false
def holdsE (c : Cust) (q : List Int) : Int :=
  if (nightsE c q).2 ≠ 0 then (nightsE c q).2 else if c.rule ≠ 1 then 0 else if fillB c.rate c.size q (nightsE c q).1 then 9 else 0
def heldZ (c : Cust) (ns : List Int) : Int := W (c.hold * W ns.sum)

theorem sum_snoc (l : List Int) (x : Int) : (l ++ [x]).sum = l.sum + x := by simp

set_option maxRecDepth 20000 in
theorem held_ok (c : Cust) (ns : List Int) (hn : ns.length ≤ 1048576) : Pure Tryz.prog 38 [.agg (custL c), L ns] (I (heldZ c ns)) := by
  refine pure_enter Tryz.func38 (by rfl) rfl Tryz.ntmps38 (congrArg Array.toList Tryz.results38) (by simp) fun S nx hd => ?_
  repeat refine pw_seq ?_
  refine pw_N [] (by rfl) (by rfl) fun K Gc Gh hK hGc hGh X hX0 hX => ?_
  simp -implicitDefEqProofs [hX0, hX]
  try clear hX0 hX X
  intro v0
  refine hK _ _ _ ?_
  clear hK hGc hGh
  clear K Gc Gh
  repeat refine pw_seq ?_
  refine pw_N [] (by rfl) (by rfl) fun K Gc Gh hK hGc hGh X hX0 hX => ?_
  simp -implicitDefEqProofs [hX0, hX]
  try clear hX0 hX X
  intros
  refine hK _ _ _ ?_
  clear hK hGc hGh
  clear K Gc Gh
  repeat refine pw_seq ?_
  refine pw_N [] (by rfl) (by rfl) fun K Gc Gh hK hGc hGh X hX0 hX => ?_
  simp -implicitDefEqProofs [hX0, hX]
  try clear hX0 hX X
  intros
  refine hK _ _ _ ?_
  clear hK hGc hGh
  clear K Gc Gh
  repeat refine pw_seq ?_
  refine pw_block (pw_loopL (fun s : Nat => s ≤ ns.length) (fun k => [(2, .ptr nx v0 0), (5, I (W (ns.take k).sum)), (8, L ns), (9, I ns.length), (10, I k)]) (fun _ => [.cells v0 54 (custL c)]) (fun s => ns.length - s) 0 [] (by simp) (by simp) (by simp) ?_)
  rintro k hk
  repeat refine pw_seq ?_
  refine pw_N [] (by rfl) (by rfl) fun K Gc Gh hK hGc hGh X hX0 hX => ?_
  simp -implicitDefEqProofs [hX0, hX]
  try clear hX0 hX X
  intros
  refine hK _ _ _ ?_
  clear hK hGc hGh
  clear K Gc Gh
  repeat refine pw_seq ?_
  refine pw_cond rfl (fun hc => ?_) (fun hc => ?_)
  · simp at hc
    obtain ⟨z, tl, a1, a2, a3, e0⟩ := el1 rfl ns k hc
    refine pw_skip (pw_seq (pw_block ?_))
    repeat refine pw_seq ?_
    refine pw_N [] (by rfl) (by rfl) fun K Gc Gh hK hGc hGh X hX0 hX => ?_
    simp -implicitDefEqProofs [hX0, hX, e0, hc]
    try clear hX0 hX X
    intros
    refine hK _ _ _ ?_
    clear hK hGc hGh
    clear K Gc Gh
    repeat refine pw_seq ?_
    refine pw_N [] (by rfl) (by rfl) fun K Gc Gh hK hGc hGh X hX0 hX => ?_
    simp -implicitDefEqProofs [hX0, hX]
    try clear hX0 hX X
    intros
    refine hK _ _ _ ?_
    clear hK hGc hGh
    clear K Gc Gh
    repeat refine pw_seq ?_
    refine pw_N [] (by rfl) (by rfl) fun K Gc Gh hK hGc hGh X hX0 hX => ?_
    simp -implicitDefEqProofs [hX0, hX]
    try clear hX0 hX X
    intros
    refine hK _ _ _ ?_
    clear hK hGc hGh
    clear K Gc Gh
    have hw : W (W (ns.take k).sum + z) = W (ns.take (k + 1)).sum := by rw [a3, sum_snoc, W_add]
    exact again_mk (k + 1) [] hc (by omega) (by simp [wrN k (by omega)]; exact hw) rfl (by simp)
  · simp at hc
    obtain rfl : k = ns.length := by omega
    rw [List.take_length]
    refine pw_exit ?_
    repeat refine pw_seq ?_
    refine pw_N [] (by rfl) (by rfl) fun K Gc Gh hK hGc hGh X hX0 hX => ?_
    simp -implicitDefEqProofs [hX0, hX]
    try clear hX0 hX X
    intros
    refine hK _ _ _ ?_
    clear hK hGc hGh
    clear K Gc Gh
    repeat refine pw_seq ?_
    exact pw_ret (ret_pure hd (by simp; rfl) rfl)

set_option maxRecDepth 20000 in
theorem holds_ok (c : Cust) (q : List Int) (hc : CustFits c) (hq : q.length ≤ 1048576) : Pure Tryz.prog 76 [.agg (custL c), L q] (I (holdsE c q)) := by
  have hni := nights_ok c q hc hq
  obtain ⟨hr, hsz, hst⟩ := hc
  refine pure_enter Tryz.func76 (by rfl) rfl Tryz.ntmps76 (congrArg Array.toList Tryz.results76) (by simp) fun S nx hd => ?_
  repeat refine pw_seq ?_
  refine pw_N [] (by rfl) (by rfl) fun K Gc Gh hK hGc hGh X hX0 hX => ?_
  simp -implicitDefEqProofs [hX0, hX]
  try clear hX0 hX X
  intro v0
  refine hK _ _ _ ?_
  clear hK hGc hGh
  clear K Gc Gh
  repeat refine pw_seq ?_
  refine pw_N [] (by rfl) (by rfl) fun K Gc Gh hK hGc hGh X hX0 hX => ?_
  simp -implicitDefEqProofs [hX]
  try clear hX0 hX X
  refine hGc _ _ _ _ _ _ _ fun hsuf => ((hni _).mono ?_).v
  rintro _ _ ⟨rfl, rfl⟩
  refine ⟨_, _, rfl, ?_⟩
  clear hGc hGh
  clear Gc Gh
  refine xs_go hsuf (D := []) (by rfl) fun Gc Gh hGc hGh X hX0 hX => ?_
  simp -implicitDefEqProofs [hX0, hX]
  try clear hX0 hX X
  intros
  refine hK _ _ _ ?_
  clear hK hGc hGh
  clear K Gc Gh
  by_cases he : (nightsE c q).2 = 0
  case neg =>
    repeat refine pw_seq ?_
    refine pw_N [] (by rfl) (by rfl) fun K Gc Gh hK hGc hGh X hX0 hX => ?_
    simp -implicitDefEqProofs [hX0, hX, he]
    try clear hX0 hX X
    intros
    refine hK _ _ _ ?_
    clear hK hGc hGh
    clear K Gc Gh
    repeat refine pw_seq ?_
    refine pw_ct (by simp) ?_
    repeat refine pw_seq ?_
    refine pw_N [] (by rfl) (by rfl) fun K Gc Gh hK hGc hGh X hX0 hX => ?_
    simp -implicitDefEqProofs [hX0, hX]
    try clear hX0 hX X
    intros
    refine hK _ _ _ ?_
    clear hK hGc hGh
    clear K Gc Gh
    repeat refine pw_seq ?_
    exact pw_ret (ret_pure hd (by simp; rfl) (by simp [holdsE, he, oneOf]))
  repeat refine pw_seq ?_
  refine pw_N [] (by rfl) (by rfl) fun K Gc Gh hK hGc hGh X hX0 hX => ?_
  simp -implicitDefEqProofs [hX0, hX, he]
  try clear hX0 hX X
  intros
  refine hK _ _ _ ?_
  clear hK hGc hGh
  clear K Gc Gh
  repeat refine pw_seq ?_
  refine pw_cf (by simp) ?_
  refine pw_skip ?_
  by_cases hru : c.rule = 1
  case neg =>
    repeat refine pw_seq ?_
    refine pw_N [] (by rfl) (by rfl) fun K Gc Gh hK hGc hGh X hX0 hX => ?_
    simp -implicitDefEqProofs [hX0, hX, hru]
    try clear hX0 hX X
    intros
    refine hK _ _ _ ?_
    clear hK hGc hGh
    clear K Gc Gh
    repeat refine pw_seq ?_
    refine pw_ct (by simp) ?_
    repeat refine pw_seq ?_
    refine pw_N [] (by rfl) (by rfl) fun K Gc Gh hK hGc hGh X hX0 hX => ?_
    simp -implicitDefEqProofs [hX0, hX]
    try clear hX0 hX X
    intros
    refine hK _ _ _ ?_
    clear hK hGc hGh
    clear K Gc Gh
    repeat refine pw_seq ?_
    exact pw_ret (ret_pure hd (by simp; rfl) (by simp [holdsE, he, hru, oneOf]))
  repeat refine pw_seq ?_
  refine pw_N [] (by rfl) (by rfl) fun K Gc Gh hK hGc hGh X hX0 hX => ?_
  simp -implicitDefEqProofs [hX0, hX, hru]
  try clear hX0 hX X
  intros
  refine hK _ _ _ ?_
  clear hK hGc hGh
  clear K Gc Gh
  repeat refine pw_seq ?_
  refine pw_cf (by simp) ?_
  refine pw_skip ?_
  have hres : holdsE c q = if fillB c.rate c.size q (nightsE c q).1 then 9 else 0 := by simp [holdsE, he, hru]
  obtain ⟨l, hl, hq0⟩ : ∃ l, runN c.size c.rate c.start q = some l ∧ (nightsE c q).1 = l ∧ ∀ z ∈ q, 0 ≤ z ∧ z ≤ 2147483648 := by
    unfold nightsE at he ⊢
    split at he
    · simp at he
    · rename_i hb
      cases hrn : runN c.size c.rate c.start q with
      | none => simp [hrn] at he
      | some l =>
        refine ⟨l, rfl, by simp [hb], fun z hz => ?_⟩
        simp only [Bool.not_eq_true, List.any_eq_false] at hb
        have := hb z hz
        simp [badQ] at this
        omega
  obtain ⟨hl1, hq0⟩ := hq0
  rw [hl1] at hres
  repeat refine pw_seq ?_
  refine pw_N [] (by rfl) (by rfl) fun K Gc Gh hK hGc hGh X hX0 hX => ?_
  simp -implicitDefEqProofs [hX]
  try clear hX0 hX X
  refine hGc _ _ _ _ _ _ _ fun hsuf => ((day_ok c ext_dead).mono ?_).v
  rintro p T ⟨v1, rfl, rfl⟩
  refine ⟨_, _, ext_push1 _, ?_⟩
  clear hGc hGh
  clear Gc Gh
  refine xs_go hsuf (D := []) (by rfl) fun Gc Gh hGc hGh X hX0 hX => ?_
  simp -implicitDefEqProofs [hX0, hX]
  clear hX0 hX X
  intros
  refine hK _ _ _ ?_
  clear hK hGc hGh
  clear K Gc Gh
  repeat refine pw_seq ?_
  refine pw_N [] (by rfl) (by rfl) fun K Gc Gh hK hGc hGh X hX0 hX => ?_
  simp -implicitDefEqProofs [hX0, hX]
  try clear hX0 hX X
  intros
  refine hK _ _ _ ?_
  clear hK hGc hGh
  clear K Gc Gh
  repeat refine pw_seq ?_
  refine pw_block (pw_loopL (fun s : Nat × Int => s.1 ≤ q.length ∧ (0 ≤ s.2 ∧ s.2 ≤ 2147483648) ∧ runN c.size c.rate s.2 (q.drop s.1) = some (l.drop s.1) ∧ fillB c.rate c.size q l = fillB c.rate c.size (q.drop s.1) (l.drop s.1))
    (fun (k, there) => [(2, .ptr nx v0 0), (7, .fn (.func 84) [] [.ptr (nx + 2) v1 0, .ip (custL c)]), (26, L q), (27, I q.length), (28, I k)])
    (fun (k, there) => [.cells v0 54 (custL c), .dead, .cells v1 3 [I there]]) (fun s => q.length - s.1) (0, c.start) [] ⟨by simp, hst, by simpa using hl, by simp⟩ (by simp) (by simp) ?_)
  rintro ⟨k, there⟩ ⟨hk, hth, hrn, ho⟩
  simp only at hk hth hrn ho ⊢
  repeat refine pw_seq ?_
  refine pw_N [] (by rfl) (by rfl) fun K Gc Gh hK hGc hGh X hX0 hX => ?_
  simp -implicitDefEqProofs [hX0, hX]
  try clear hX0 hX X
  intros
  refine hK _ _ _ ?_
  clear hK hGc hGh
  clear K Gc Gh
  repeat refine pw_seq ?_
  refine pw_cond rfl (fun hc => ?_) (fun hc => ?_)
  · simp at hc
    obtain ⟨z, tl, a1, a2, a3, e0⟩ := el1 rfl q k hc
    have hz := hq0 z (List.mem_of_getElem? a1)
    rw [a2] at hrn ho
    simp only [runN] at hrn
    split at hrn
    · cases hrn
    rename_i hno
    obtain ⟨l2, hl2, hl3⟩ := Option.map_eq_some_iff.1 hrn
    rw [← hl3] at ho
    simp only [fillB] at ho
    have hl4 : l.drop (k + 1) = l2 := by rw [← List.drop_drop, ← hl3]; rfl
    have hs1 : there + z - c.rate + c.rate = there + z := by omega
    rw [hs1] at ho
    refine pw_skip (pw_seq (pw_block ?_))
    repeat refine pw_seq ?_
    refine pw_N [] (by rfl) (by rfl) fun K Gc Gh hK hGc hGh X hX0 hX => ?_
    simp -implicitDefEqProofs [hX0, hX, e0, hc]
    try clear hX0 hX X
    intros
    refine hK _ _ _ ?_
    clear hK hGc hGh
    clear K Gc Gh
    repeat refine pw_seq ?_
    refine pw_N [] (by rfl) (by rfl) fun K Gc Gh hK hGc hGh X hX0 hX => ?_
    simp -implicitDefEqProofs [hX]
    try clear hX0 hX X
    refine hGc _ _ _ _ _ _ _ fun hsuf => ((dayF_ok c z there (id := nx + 2) (v := v1) (by simp) (by omega) (by omega)).mono ?_).v
    rintro p T ⟨rfl, rfl⟩
    refine ⟨_, _, ext_set _ (by omega) (by simp), ?_⟩
    clear hGc hGh
    clear Gc Gh
    refine xs_go hsuf (D := []) (by rfl) fun Gc Gh hGc hGh X hX0 hX => ?_
    simp -implicitDefEqProofs [hX0, hX]
    clear hX0 hX X
    intros
    refine hK _ _ _ ?_
    clear hK hGc hGh
    clear K Gc Gh
    by_cases h1 : 0 < z
    · by_cases h2 : there + z = c.size
      · repeat refine pw_seq ?_
        refine pw_N [(2, 40)] (by rfl) (by rfl) fun K Gc Gh hK hGc hGh X hX0 hX => ?_
        simp -implicitDefEqProofs [hX0, hX, h1, h2]
        try clear hX0 hX X
        intros
        refine hK _ _ _ ?_
        clear hK hGc hGh
        clear K Gc Gh
        repeat refine pw_seq ?_
        refine pw_cf (by simp) ?_
        refine pw_skip ?_
        repeat refine pw_seq ?_
        refine pw_N [] (by rfl) (by rfl) fun K Gc Gh hK hGc hGh X hX0 hX => ?_
        simp -implicitDefEqProofs [hX0, hX]
        try clear hX0 hX X
        intros
        refine hK _ _ _ ?_
        clear hK hGc hGh
        clear K Gc Gh
        exact again_mk (k + 1, there + z - c.rate) [] ⟨hc, by dsimp only; omega, by rw [hl4]; exact hl2, by rw [ho, hl4, decide_eq_false (by omega), Bool.false_or]⟩ (by simp; omega) (by simp [wrN k (by omega)]) rfl (by simp [h2])
      · repeat refine pw_seq ?_
        refine pw_N [(2, 40)] (by rfl) (by rfl) fun K Gc Gh hK hGc hGh X hX0 hX => ?_
        simp -implicitDefEqProofs [hX0, hX, h1, h2]
        try clear hX0 hX X
        intros
        refine hK _ _ _ ?_
        clear hK hGc hGh
        clear K Gc Gh
        repeat refine pw_seq ?_
        refine pw_ct (by simp) ?_
        repeat refine pw_seq ?_
        refine pw_N [] (by rfl) (by rfl) fun K Gc Gh hK hGc hGh X hX0 hX => ?_
        simp -implicitDefEqProofs [hX0, hX]
        try clear hX0 hX X
        intros
        refine hK _ _ _ ?_
        clear hK hGc hGh
        clear K Gc Gh
        repeat refine pw_seq ?_
        exact pw_ret (ret_pure hd (by simp; rfl) (by rw [hres, ho]; simp [h1, h2, oneOf]))
    · repeat refine pw_seq ?_
      refine pw_N [(2, 40)] (by rfl) (by rfl) fun K Gc Gh hK hGc hGh X hX0 hX => ?_
      simp -implicitDefEqProofs [hX0, hX, h1, undef]
      try clear hX0 hX X
      intros
      refine hK _ _ _ ?_
      clear hK hGc hGh
      clear K Gc Gh
      repeat refine pw_seq ?_
      refine pw_cf rfl ?_
      refine pw_skip ?_
      repeat refine pw_seq ?_
      refine pw_N [] (by rfl) (by rfl) fun K Gc Gh hK hGc hGh X hX0 hX => ?_
      simp -implicitDefEqProofs [hX0, hX]
      try clear hX0 hX X
      intros
      refine hK _ _ _ ?_
      clear hK hGc hGh
      clear K Gc Gh
      exact again_mk (k + 1, there + z - c.rate) [] ⟨hc, by dsimp only; omega, by rw [hl4]; exact hl2, by rw [ho, hl4, decide_eq_false (by omega), Bool.false_or]⟩ (by simp; omega) (by simp [wrN k (by omega)]) rfl (by simp)
  · simp at hc
    obtain rfl : k = q.length := by omega
    rw [List.drop_length] at ho
    simp only [fillB] at ho
    refine pw_exit ?_
    repeat refine pw_seq ?_
    refine pw_N [] (by rfl) (by rfl) fun K Gc Gh hK hGc hGh X hX0 hX => ?_
    simp -implicitDefEqProofs [hX0, hX]
    try clear hX0 hX X
    intros
    refine hK _ _ _ ?_
    clear hK hGc hGh
    clear K Gc Gh
    repeat refine pw_seq ?_
    exact pw_ret (ret_pure hd (by simp; rfl) (by rw [hres, ho]; rfl))

/-! ### num -/

def satZ (a b : Int) : Int := if a + b < -9223372036854775808 then -9223372036854775808 else if 9223372036854775807 < a + b then 9223372036854775807 else a + b

set_option maxRecDepth 20000 in
theorem add_ok (a b : Int) (ha : I64 a) (hb : I64 b) : Pure Tryz.prog 111 [I a, I b] (if -9223372036854775808 ≤ a + b ∧ a + b ≤ 9223372036854775807 then .tup [I (a + b), B true] else .tup [I 0, B false]) := by
  unfold I64 at ha hb
  refine pure_enter Tryz.func111 (by rfl) rfl Tryz.ntmps111 (congrArg Array.toList Tryz.results111) (by simp) fun S nx hd => ?_
  repeat refine pw_seq ?_
  refine pw_N [] (by rfl) (by rfl) fun K Gc Gh hK hGc hGh X hX0 hX => ?_
  simp -implicitDefEqProofs [hX0, hX]
  try clear hX0 hX X
  intros
  refine hK _ _ _ ?_
  clear hK hGc hGh
  clear K Gc Gh
  by_cases h : -9223372036854775808 ≤ a + b ∧ a + b ≤ 9223372036854775807
  · have w1 : IntKind.i64.wrap (a + b) = a + b := wr _ h.1 h.2
    repeat refine pw_seq ?_
    refine pw_N [] (by rfl) (by rfl) fun K Gc Gh hK hGc hGh X hX0 hX => ?_
    simp -implicitDefEqProofs [hX0, hX, w1]
    try clear hX0 hX X
    intros
    refine hK _ _ _ ?_
    clear hK hGc hGh
    clear K Gc Gh
    by_cases h1 : b < 0
    · have h2 : a + b < a := by omega
      repeat refine pw_seq ?_
      refine pw_N [] (by rfl) (by rfl) fun K Gc Gh hK hGc hGh X hX0 hX => ?_
      simp -implicitDefEqProofs [hX0, hX, h1, h2]
      try clear hX0 hX X
      intros
      refine hK _ _ _ ?_
      clear hK hGc hGh
      clear K Gc Gh
      repeat refine pw_seq ?_
      refine pw_cf (by simp) ?_
      refine pw_skip ?_
      repeat refine pw_seq ?_
      refine pw_N [] (by rfl) (by rfl) fun K Gc Gh hK hGc hGh X hX0 hX => ?_
      simp -implicitDefEqProofs [hX0, hX]
      try clear hX0 hX X
      intros
      refine hK _ _ _ ?_
      clear hK hGc hGh
      clear K Gc Gh
      repeat refine pw_seq ?_
      exact pw_ret (ret_pure hd (by simp; rfl) (by simp [h, oneOf]))
    · have h2 : ¬ a + b < a := by omega
      repeat refine pw_seq ?_
      refine pw_N [] (by rfl) (by rfl) fun K Gc Gh hK hGc hGh X hX0 hX => ?_
      simp -implicitDefEqProofs [hX0, hX, h1, h2]
      try clear hX0 hX X
      intros
      refine hK _ _ _ ?_
      clear hK hGc hGh
      clear K Gc Gh
      repeat refine pw_seq ?_
      refine pw_cf (by simp) ?_
      refine pw_skip ?_
      repeat refine pw_seq ?_
      refine pw_N [] (by rfl) (by rfl) fun K Gc Gh hK hGc hGh X hX0 hX => ?_
      simp -implicitDefEqProofs [hX0, hX]
      try clear hX0 hX X
      intros
      refine hK _ _ _ ?_
      clear hK hGc hGh
      clear K Gc Gh
      repeat refine pw_seq ?_
      exact pw_ret (ret_pure hd (by simp; rfl) (by simp [h, oneOf]))
  · by_cases h0 : a + b < -9223372036854775808
    · have w1 : IntKind.i64.wrap (a + b) = a + b + 18446744073709551616 := by rw [IntKind.wrap_i64]; omega
      have h1 : b < 0 := by omega
      have h2 : ¬ a + b + 18446744073709551616 < a := by omega
      repeat refine pw_seq ?_
      refine pw_N [] (by rfl) (by rfl) fun K Gc Gh hK hGc hGh X hX0 hX => ?_
      simp -implicitDefEqProofs [hX0, hX, w1]
      try clear hX0 hX X
      intros
      refine hK _ _ _ ?_
      clear hK hGc hGh
      clear K Gc Gh
      repeat refine pw_seq ?_
      refine pw_N [] (by rfl) (by rfl) fun K Gc Gh hK hGc hGh X hX0 hX => ?_
      simp -implicitDefEqProofs [hX0, hX, h1, h2]
      try clear hX0 hX X
      intros
      refine hK _ _ _ ?_
      clear hK hGc hGh
      clear K Gc Gh
      repeat refine pw_seq ?_
      refine pw_ct (by simp) ?_
      repeat refine pw_seq ?_
      refine pw_N [] (by rfl) (by rfl) fun K Gc Gh hK hGc hGh X hX0 hX => ?_
      simp -implicitDefEqProofs [hX0, hX]
      try clear hX0 hX X
      intros
      refine hK _ _ _ ?_
      clear hK hGc hGh
      clear K Gc Gh
      repeat refine pw_seq ?_
      exact pw_ret (ret_pure hd (by simp; rfl) (by simp only [h, if_false]; rfl))
    · have w1 : IntKind.i64.wrap (a + b) = a + b - 18446744073709551616 := by rw [IntKind.wrap_i64]; omega
      have h1 : ¬ b < 0 := by omega
      have h2 : a + b - 18446744073709551616 < a := by omega
      repeat refine pw_seq ?_
      refine pw_N [] (by rfl) (by rfl) fun K Gc Gh hK hGc hGh X hX0 hX => ?_
      simp -implicitDefEqProofs [hX0, hX, w1]
      try clear hX0 hX X
      intros
      refine hK _ _ _ ?_
      clear hK hGc hGh
      clear K Gc Gh
      repeat refine pw_seq ?_
      refine pw_N [] (by rfl) (by rfl) fun K Gc Gh hK hGc hGh X hX0 hX => ?_
      simp -implicitDefEqProofs [hX0, hX, h1, h2]
      try clear hX0 hX X
      intros
      refine hK _ _ _ ?_
      clear hK hGc hGh
      clear K Gc Gh
      repeat refine pw_seq ?_
      refine pw_ct (by simp) ?_
      repeat refine pw_seq ?_
      refine pw_N [] (by rfl) (by rfl) fun K Gc Gh hK hGc hGh X hX0 hX => ?_
      simp -implicitDefEqProofs [hX0, hX]
      try clear hX0 hX X
      intros
      refine hK _ _ _ ?_
      clear hK hGc hGh
      clear K Gc Gh
      repeat refine pw_seq ?_
      exact pw_ret (ret_pure hd (by simp; rfl) (by simp only [h, if_false]; rfl))

set_option maxRecDepth 20000 in
theorem sat_ok (a b : Int) (ha : I64 a) (hb : I64 b) : Pure Tryz.prog 86 [I a, I b] (I (satZ a b)) := by
  have hadd := add_ok a b ha hb
  unfold I64 at ha hb
  refine pure_enter Tryz.func86 (by rfl) rfl Tryz.ntmps86 (congrArg Array.toList Tryz.results86) (by simp) fun S nx hd => ?_
  repeat refine pw_seq ?_
  refine pw_N [] (by rfl) (by rfl) fun K Gc Gh hK hGc hGh X hX0 hX => ?_
  simp -implicitDefEqProofs [hX0, hX]
  try clear hX0 hX X
  intros
  refine hK _ _ _ ?_
  clear hK hGc hGh
  clear K Gc Gh
  by_cases h : -9223372036854775808 ≤ a + b ∧ a + b ≤ 9223372036854775807
  · rw [if_pos h] at hadd
    repeat refine pw_seq ?_
    refine pw_N [] (by rfl) (by rfl) fun K Gc Gh hK hGc hGh X hX0 hX => ?_
    simp -implicitDefEqProofs [hX]
    try clear hX0 hX X
    refine hGc _ _ _ _ _ _ _ fun hsuf => ((hadd _).mono ?_).v
    rintro _ _ ⟨rfl, rfl⟩
    refine ⟨_, _, rfl, ?_⟩
    clear hGc hGh
    clear Gc Gh
    refine xs_go hsuf (D := []) (by rfl) fun Gc Gh hGc hGh X hX0 hX => ?_
    simp -implicitDefEqProofs [hX0, hX]
    try clear hX0 hX X
    intros
    refine hK _ _ _ ?_
    clear hK hGc hGh
    clear K Gc Gh
    repeat refine pw_seq ?_
    refine pw_block ?_
    repeat refine pw_seq ?_
    refine pw_N [] (by rfl) (by rfl) fun K Gc Gh hK hGc hGh X hX0 hX => ?_
    simp -implicitDefEqProofs [hX0, hX]
    try clear hX0 hX X
    intros
    refine hK _ _ _ ?_
    clear hK hGc hGh
    clear K Gc Gh
    repeat refine pw_seq ?_
    refine pw_ct rfl ?_
    repeat refine pw_seq ?_
    refine pw_N [] (by rfl) (by rfl) fun K Gc Gh hK hGc hGh X hX0 hX => ?_
    simp -implicitDefEqProofs [hX0, hX]
    try clear hX0 hX X
    intros
    refine hK _ _ _ ?_
    clear hK hGc hGh
    clear K Gc Gh
    repeat refine pw_seq ?_
    exact pw_ret (ret_pure hd (by simp; rfl) (by simp only [satZ, oneOf]; rw [if_neg (by omega), if_neg (by omega)]))
  · rw [if_neg h] at hadd
    repeat refine pw_seq ?_
    refine pw_N [] (by rfl) (by rfl) fun K Gc Gh hK hGc hGh X hX0 hX => ?_
    simp -implicitDefEqProofs [hX]
    try clear hX0 hX X
    refine hGc _ _ _ _ _ _ _ fun hsuf => ((hadd _).mono ?_).v
    rintro _ _ ⟨rfl, rfl⟩
    refine ⟨_, _, rfl, ?_⟩
    clear hGc hGh
    clear Gc Gh
    refine xs_go hsuf (D := []) (by rfl) fun Gc Gh hGc hGh X hX0 hX => ?_
    simp -implicitDefEqProofs [hX0, hX]
    try clear hX0 hX X
    intros
    refine hK _ _ _ ?_
    clear hK hGc hGh
    clear K Gc Gh
    repeat refine pw_seq ?_
    refine pw_block ?_
    repeat refine pw_seq ?_
    refine pw_N [] (by rfl) (by rfl) fun K Gc Gh hK hGc hGh X hX0 hX => ?_
    simp -implicitDefEqProofs [hX0, hX]
    try clear hX0 hX X
    intros
    refine hK _ _ _ ?_
    clear hK hGc hGh
    clear K Gc Gh
    repeat refine pw_seq ?_
    refine pw_cf rfl ?_
    repeat refine pw_seq ?_
    refine pw_N [] (by rfl) (by rfl) fun K Gc Gh hK hGc hGh X hX0 hX => ?_
    simp -implicitDefEqProofs [hX0, hX]
    try clear hX0 hX X
    intros
    refine hK _ _ _ ?_
    clear hK hGc hGh
    clear K Gc Gh
    repeat refine pw_seq ?_
    refine pw_cond rfl (fun h1 => ?_) (fun h1 => ?_)
    · simp at h1
      repeat refine pw_seq ?_
      refine pw_N [] (by rfl) (by rfl) fun K Gc Gh hK hGc hGh X hX0 hX => ?_
      simp -implicitDefEqProofs [hX0, hX]
      try clear hX0 hX X
      intros
      refine hK _ _ _ ?_
      clear hK hGc hGh
      clear K Gc Gh
      repeat refine pw_seq ?_
      exact pw_ret (ret_pure hd (by simp; rfl) (by simp only [satZ, oneOf]; rw [if_pos (by omega)]))
    · simp at h1
      refine pw_skip ?_
      repeat refine pw_seq ?_
      refine pw_N [] (by rfl) (by rfl) fun K Gc Gh hK hGc hGh X hX0 hX => ?_
      simp -implicitDefEqProofs [hX0, hX]
      try clear hX0 hX X
      intros
      refine hK _ _ _ ?_
      clear hK hGc hGh
      clear K Gc Gh
      repeat refine pw_seq ?_
      exact pw_ret (ret_pure hd (by simp; rfl) (by simp only [satZ, oneOf]; rw [if_neg (by omega), if_pos (by omega)]))

set_option maxRecDepth 20000 in
theorem clip_ok (a lo hi : Int) : Pure Tryz.prog 85 [I a, I lo, I hi] (I (min (max a lo) hi)) := by
  have h1 : minI (maxI a lo) hi = min (max a lo) hi := by unfold minI maxI; split <;> split <;> omega
  refine pure_enter Tryz.func85 (by rfl) rfl Tryz.ntmps85 (congrArg Array.toList Tryz.results85) (by simp) fun S nx hd => ?_
  repeat refine pw_seq ?_
  refine pw_N [] (by rfl) (by rfl) fun K Gc Gh hK hGc hGh X hX0 hX => ?_
  simp -implicitDefEqProofs [hX0, hX]
  try clear hX0 hX X
  intros
  refine hK _ _ _ ?_
  clear hK hGc hGh
  clear K Gc Gh
  repeat refine pw_seq ?_
  refine pw_N [] (by rfl) (by rfl) fun K Gc Gh hK hGc hGh X hX0 hX => ?_
  simp -implicitDefEqProofs [hX0, hX, h1]
  try clear hX0 hX X
  intros
  refine hK _ _ _ ?_
  clear hK hGc hGh
  clear K Gc Gh
  repeat refine pw_seq ?_
  exact pw_ret (ret_pure hd (by simp; rfl) rfl)

/-! ### Bringings -/

def bringsV (v : List Visit) (n : Int) : List Int := (List.range (min (max n 0) 64).toNat).map fun (d : Nat) => ((v.filter fun s => decide (s.d = (d : Int))).map (·.q)).sum
theorem bringsV_len (v : List Visit) (n : Int) : (bringsV v n).length = (min (max n 0) 64).toNat := by simp [bringsV]
theorem bringsV_nil (n : Int) : bringsV [] n = List.replicate (min (max n 0) 64).toNat 0 := by
  apply List.ext_getElem
  · simp [bringsV]
  · intro i h1 h2; simp [bringsV]
theorem bringsV_out (v : List Visit) (n : Int) (s : Visit) (h : ¬ (0 ≤ s.d ∧ s.d < ((min (max n 0) 64).toNat : Int))) : bringsV (v ++ [s]) n = bringsV v n := by
  unfold bringsV
  apply List.map_congr_left
  intro d hd
  have hdl := List.mem_range.1 hd
  have : ¬ s.d = (d : Int) := by omega
  simp [this]
theorem bringsV_in (v : List Visit) (n : Int) (s : Visit) (d : Nat) (hs : s.d = (d : Int)) (b : Int) (hb : (bringsV v n)[d]? = some b) : bringsV (v ++ [s]) n = (bringsV v n).set d (b + s.q) := by
  obtain ⟨hdl, hbe⟩ := List.getElem?_eq_some_iff.1 hb
  apply List.ext_getElem
  · simp [bringsV]
  · intro i h1 h2
    rw [List.getElem_set]
    have hil : i < (bringsV v n).length := by simpa using h2
    by_cases q : d = i
    · subst q
      rw [if_pos rfl, ← hbe]
      simp [bringsV, hs]
    · rw [if_neg q]
      have : ¬ s.d = (i : Int) := by omega
      simp [bringsV, this]

structure VisOk (v : List Visit) : Prop where
  n : v.length ≤ 1048576
  q : ∀ s ∈ v, 0 ≤ s.q ∧ s.q ≤ 2147483648
  d : ∀ s ∈ v, I64 s.d

theorem filt_le (v : List Visit) (p : Visit → Bool) (h : ∀ s ∈ v, 0 ≤ s.q ∧ s.q ≤ 2147483648) : 0 ≤ ((v.filter p).map (·.q)).sum ∧ ((v.filter p).map (·.q)).sum ≤ 2147483648 * v.length := by
  induction v with
  | nil => simp
  | cons s v ih =>
    have h1 := ih fun x hx => h x (by simp [hx])
    have h2 := h s (by simp)
    rw [List.filter_cons]
    split
    · simp only [List.map_cons, List.sum_cons, List.length_cons]; omega
    · simp only [List.length_cons]; omega
theorem bringsV_le {v : List Visit} (hv : ∀ s ∈ v, 0 ≤ s.q ∧ s.q ≤ 2147483648) (n : Int) : ∀ b ∈ bringsV v n, 0 ≤ b ∧ b ≤ 2147483648 * v.length := by
  intro b hb
  simp only [bringsV, List.mem_map] at hb
  obtain ⟨d, _, rfl⟩ := hb
  exact filt_le v _ hv

set_option maxRecDepth 20000 in
theorem brings_ok (v : List Visit) (n : Int) (hv : VisOk v) : Pure Tryz.prog 64 [L v, I n] (L (bringsV v n)) := by
  have hvn := hv.n
  have hm : min (max n 0) 64 = (((min (max n 0) 64).toNat : Nat) : Int) := by omega
  have hm64 : (min (max n 0) 64).toNat ≤ 64 := by omega
  refine pure_enter Tryz.func64 (by rfl) rfl Tryz.ntmps64 (congrArg Array.toList Tryz.results64) (by simp) fun S nx hd => ?_
  repeat refine pw_seq ?_
  refine pw_N [] (by rfl) (by rfl) fun K Gc Gh hK hGc hGh X hX0 hX => ?_
  simp -implicitDefEqProofs [hX0, hX]
  try clear hX0 hX X
  intros
  refine hK _ _ _ ?_
  clear hK hGc hGh
  clear K Gc Gh
  repeat refine pw_seq ?_
  refine pw_N [] (by rfl) (by rfl) fun K Gc Gh hK hGc hGh X hX0 hX => ?_
  simp -implicitDefEqProofs [hX]
  try clear hX0 hX X
  refine hGc _ _ _ _ _ _ _ fun hsuf => ((clip_ok n 0 64 _).mono ?_).v
  rintro _ _ ⟨rfl, rfl⟩
  refine ⟨_, _, rfl, ?_⟩
  clear hGc hGh
  clear Gc Gh
  refine xs_go hsuf (D := []) (by rfl) fun Gc Gh hGc hGh X hX0 hX => ?_
  simp -implicitDefEqProofs [hX0, hX]
  try clear hX0 hX X
  refine ⟨by omega, fun v1 => ?_⟩
  intros
  refine hK _ _ _ ?_
  clear hK hGc hGh
  clear K Gc Gh
  generalize hmm : (min (max n 0) 64).toNat = m at hm hm64
  have hz := bringsV_nil n
  rw [hmm] at hz
  repeat refine pw_seq ?_
  refine pw_N [] (by rfl) (by rfl) fun K Gc Gh hK hGc hGh X hX0 hX => ?_
  simp -implicitDefEqProofs [hX0, hX]
  try clear hX0 hX X
  intros
  refine hK _ _ _ ?_
  clear hK hGc hGh
  clear K Gc Gh
  repeat refine pw_seq ?_
  refine pw_block (pw_loopL (fun s : Nat => s ≤ v.length) (fun k => [(5, .sl nx v1 1 0 m), (11, L v), (12, I v.length), (13, I k)]) (fun k => [.cells v1 3 ((bringsV (v.take k) n).flatMap Enc.enc)]) (fun s => v.length - s) 0 [] (by simp) (by simp) (by simp [hz, zeros_int]) ?_)
  rintro k hk
  have hbl := bringsV_len (v.take k) n
  rw [hmm] at hbl
  repeat refine pw_seq ?_
  refine pw_N [] (by rfl) (by rfl) fun K Gc Gh hK hGc hGh X hX0 hX => ?_
  simp -implicitDefEqProofs [hX0, hX]
  try clear hX0 hX X
  intros
  refine hK _ _ _ ?_
  clear hK hGc hGh
  clear K Gc Gh
  repeat refine pw_seq ?_
  refine pw_cond rfl (fun hc => ?_) (fun hc => ?_)
  · simp at hc
    obtain ⟨s, tl, a1, a2, a3, _, e0⟩ := el 2 rfl v k hc
    have hsm := List.mem_of_getElem? a1
    have hsq := hv.q s hsm
    have hout := bringsV_out (v.take k) n s
    rw [hmm] at hout
    refine pw_skip (pw_seq (pw_block ?_))
    repeat refine pw_seq ?_
    refine pw_N [] (by rfl) (by rfl) fun K Gc Gh hK hGc hGh X hX0 hX => ?_
    simp -implicitDefEqProofs [hX0, hX, e0, hc]
    try clear hX0 hX X
    intro v2
    refine hK _ _ _ ?_
    clear hK hGc hGh
    clear K Gc Gh
    by_cases h1 : 0 ≤ s.d
    · by_cases h2 : s.d < (m : Int)
      · obtain ⟨d, hd⟩ := Int.eq_ofNat_of_zero_le h1
        have hdm : d < m := by omega
        obtain ⟨b, tl2, b1, b2, b3, e2⟩ := el1 rfl (bringsV (v.take k) n) d (by omega)
        have hbm := bringsV_le (fun x hx => hv.q x (List.mem_of_mem_take hx)) n b (List.mem_of_getElem? b1)
        have htl : (v.take k).length ≤ 1048576 := by simp; omega
        have hin := bringsV_in (v.take k) n s d hd b b1
        have hsp := splice_int (bringsV (v.take k) n) d (b + s.q) (by omega)
        have hsat : satZ b s.q = b + s.q := by unfold satZ; rw [if_neg (by omega), if_neg (by omega)]
        have hflen : ((bringsV (v.take k) n).flatMap Enc.enc).length = m := by rw [flen_int, hbl]
        repeat refine pw_seq ?_
        refine pw_N [(3, 20)] (by rfl) (by rfl) fun K Gc Gh hK hGc hGh X hX0 hX => ?_
        simp -implicitDefEqProofs [hX0, hX, h1, h2]
        try clear hX0 hX X
        intros
        refine hK _ _ _ ?_
        clear hK hGc hGh
        clear K Gc Gh
        repeat refine pw_seq ?_
        refine pw_ct rfl ?_
        repeat refine pw_seq ?_
        refine pw_Y (some [nx + 1]) (Row.pures [0, 1, 2, 3, 4, 5, 6, 8, 9] (.alt 7 (Row.pures [10, 11] (.alt 12 (.done) .stop)) .stop)) mixed (by rfl) (by rfl) (by rfl) fun K Gp Gc Gh hK hGp hGc hGh X hX0 hX1 hX2 hX => ?_
        simp -implicitDefEqProofs [hX1, hX2, hX, hd, hdm, e2]
        try clear hX0 hX1 hX2 hX X
        refine hGp _ _ _ _ _ _ _ _ (sat_ok b s.q (by unfold I64; omega) (by unfold I64; omega)) ?_
        clear hGp hGc hGh
        clear Gp Gc Gh
        refine px_go fun Gp Gc Gh hGp hGc hGh X hX0 hX1 hX2 hX => ?_
        simp -implicitDefEqProofs [hX0, hX1, hX2, hX, hsat, hsp, hbl, hdm, hd]
        try clear hX0 hX1 hX2 hX X
        refine ⟨by omega, ?_⟩
        refine hK _ _ _ ?_
        clear hK hGp hGc hGh
        clear K Gp Gc Gh
        repeat refine pw_seq ?_
        refine pw_N [] (by rfl) (by rfl) fun K Gc Gh hK hGc hGh X hX0 hX => ?_
        simp -implicitDefEqProofs [hX0, hX]
        try clear hX0 hX X
        intros
        refine hK _ _ _ ?_
        clear hK hGc hGh
        clear K Gc Gh
        exact again_mk (k + 1) [_] hc (by omega) (by simp [wrN k (by omega)]) rfl (by rw [a3, hin]; rfl)
      · repeat refine pw_seq ?_
        refine pw_N [(3, 20)] (by rfl) (by rfl) fun K Gc Gh hK hGc hGh X hX0 hX => ?_
        simp -implicitDefEqProofs [hX0, hX, h1, h2]
        try clear hX0 hX X
        intros
        refine hK _ _ _ ?_
        clear hK hGc hGh
        clear K Gc Gh
        repeat refine pw_seq ?_
        refine pw_cf rfl ?_
        refine pw_skip ?_
        repeat refine pw_seq ?_
        refine pw_N [] (by rfl) (by rfl) fun K Gc Gh hK hGc hGh X hX0 hX => ?_
        simp -implicitDefEqProofs [hX0, hX]
        try clear hX0 hX X
        intros
        refine hK _ _ _ ?_
        clear hK hGc hGh
        clear K Gc Gh
        exact again_mk (k + 1) [_] hc (by omega) (by simp [wrN k (by omega)]) rfl (by rw [a3, hout (by omega)]; rfl)
    · repeat refine pw_seq ?_
      refine pw_N [(3, 20)] (by rfl) (by rfl) fun K Gc Gh hK hGc hGh X hX0 hX => ?_
      simp -implicitDefEqProofs [hX0, hX, h1, undef]
      try clear hX0 hX X
      intros
      refine hK _ _ _ ?_
      clear hK hGc hGh
      clear K Gc Gh
      repeat refine pw_seq ?_
      refine pw_cf rfl ?_
      refine pw_skip ?_
      repeat refine pw_seq ?_
      refine pw_N [] (by rfl) (by rfl) fun K Gc Gh hK hGc hGh X hX0 hX => ?_
      simp -implicitDefEqProofs [hX0, hX]
      try clear hX0 hX X
      intros
      refine hK _ _ _ ?_
      clear hK hGc hGh
      clear K Gc Gh
      exact again_mk (k + 1) [_] hc (by omega) (by simp [wrN k (by omega)]) rfl (by rw [a3, hout (by omega)]; rfl)
  · simp at hc
    obtain rfl : k = v.length := by omega
    rw [List.take_length] at hbl ⊢
    refine pw_exit ?_
    repeat refine pw_seq ?_
    refine pw_N [] (by rfl) (by rfl) fun K Gc Gh hK hGc hGh X hX0 hX => ?_
    simp -implicitDefEqProofs [hX0, hX]
    try clear hX0 hX X
    intros
    refine hK _ _ _ ?_
    clear hK hGc hGh
    clear K Gc Gh
    refine pw_frz 0 rfl ?_
    repeat refine pw_seq ?_
    exact pw_ret (ret_pure hd (by simp; rfl) (by simp [hbl, oneOf]))

end Go.Proofs.YtlkcdaeknioanaaGreat.Pv
