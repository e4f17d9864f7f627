/- tranterref09: Nights, Holds, Held, Brings; tranterref08.Visits. -/
import Derived.Test.YtlkcdaeknioanaaGreatLl
import Derived.Test.YtlkcdaeknioanaaGreatLc
namespace Go.Proofs.YtlkcdaeknioanaaGreat.Pv
open Go

set_option maxRecDepth 20000 in
theorem heldR_ok (c : Cust) (ns : List Int) (hn : ns.length ≤ 1048576) : Pure Tryz.prog 42 [.agg (custL c), L ns] (I (heldZ c ns)) := by
  refine pure_enter Tryz.func42 (by rfl) rfl Tryz.ntmps42 (congrArg Array.toList Tryz.results42) (by simp) fun S nx hd => ?_
  repeat refine pw_seq ?_
  refine pw_N [] (by rfl) (by rfl) fun K Gc Gh hK hGc hGh X hX0 hX => ?_
  simp -implicitDefEqProofs [hX0, hX]
  try clear hX0 hX X
  intro v0
  refine hK _ _ _ ?_
  clear hK hGc hGh
  clear K Gc Gh
  repeat refine pw_seq ?_
  refine pw_N [] (by rfl) (by rfl) fun K Gc Gh hK hGc hGh X hX0 hX => ?_
  simp -implicitDefEqProofs [hX0, hX]
  try clear hX0 hX X
  intros
  refine hK _ _ _ ?_
  clear hK hGc hGh
  clear K Gc Gh
  repeat refine pw_seq ?_
  refine pw_N [] (by rfl) (by rfl) fun K Gc Gh hK hGc hGh X hX0 hX => ?_
  simp -implicitDefEqProofs [hX0, hX]
  try clear hX0 hX X
  intros
  refine hK _ _ _ ?_
  clear hK hGc hGh
  clear K Gc Gh
  repeat refine pw_seq ?_
  refine pw_block (pw_loopL (fun s : Nat => s ≤ ns.length) (fun k => [(1, L ns), (2, .ptr nx v0 0), (5, I (W (ns.take k).sum)), (6, I k)]) (fun _ => [.cells v0 54 (custL c)]) (fun s => ns.length - s) 0 [] (by simp) (by simp) (by simp) ?_)
  rintro k hk
  repeat refine pw_seq ?_
  refine pw_N [] (by rfl) (by rfl) fun K Gc Gh hK hGc hGh X hX0 hX => ?_
  simp -implicitDefEqProofs [hX0, hX]
  try clear hX0 hX X
  intros
  refine hK _ _ _ ?_
  clear hK hGc hGh
  clear K Gc Gh
  repeat refine pw_seq ?_
  refine pw_cond rfl (fun hc => ?_) (fun hc => ?_)
  · simp at hc
    obtain ⟨z, tl, a1, a2, a3, e0⟩ := el1 rfl ns k hc
    refine pw_skip (pw_seq (pw_block ?_))
    have hw : W (W (ns.take k).sum + z) = W (ns.take (k + 1)).sum := by rw [a3, sum_snoc, W_add]
    repeat refine pw_seq ?_
    refine pw_N [] (by rfl) (by rfl) fun K Gc Gh hK hGc hGh X hX0 hX => ?_
    simp -implicitDefEqProofs [hX0, hX, e0, hc]
    try clear hX0 hX X
    intros
    refine hK _ _ _ ?_
    clear hK hGc hGh
    clear K Gc Gh
    repeat refine pw_seq ?_
    refine pw_N [] (by rfl) (by rfl) fun K Gc Gh hK hGc hGh X hX0 hX => ?_
    simp -implicitDefEqProofs [hX0, hX]
    try clear hX0 hX X
    intros
    refine hK _ _ _ ?_
    clear hK hGc hGh
    clear K Gc Gh
    exact again_mk (k + 1) [] hc (by omega) (by simp [wrN k (by omega)]; exact hw) rfl (by simp)
  · simp at hc
    obtain rfl : k = ns.length := by omega
    rw [List.take_length]
    refine pw_exit ?_
    repeat refine pw_seq ?_
    refine pw_N [] (by rfl) (by rfl) fun K Gc Gh hK hGc hGh X hX0 hX => ?_
    simp -implicitDefEqProofs [hX0, hX]
    try clear hX0 hX X
    intros
    refine hK _ _ _ ?_
    clear hK hGc hGh
    clear K Gc Gh
    repeat refine pw_seq ?_
    exact pw_ret (ret_pure hd (by simp; rfl) rfl)

theorem sum_take {q : List Int} (h : ∀ z ∈ q, 0 ≤ z ∧ z ≤ 2147483648) : ∀ k : Nat, k ≤ q.length → 0 ≤ (q.take k).sum ∧ (q.take k).sum ≤ 2147483648 * k := by
  intro k
  induction k with
  | zero => intro _; simp
  | succ k ih =>
    intro hk
    have := ih (by omega)
    have hz := h q[k] (List.getElem_mem (by omega))
    rw [List.take_succ_eq_append_getElem (by omega), sum_snoc]
    omega

set_option maxRecDepth 20000 in
theorem nightsR_ok (c : Cust) (q : List Int) (hc : CustFits c) (hq : q.length ≤ 1048576) : Pure Tryz.prog 39 [.agg (custL c), L q] (.tup [L (nightsE c q).1, I (nightsE c q).2]) := by
  obtain ⟨hr, hsz, hst⟩ := hc
  refine pure_enter Tryz.func39 (by rfl) rfl Tryz.ntmps39 (congrArg Array.toList Tryz.results39) (by simp) fun S nx hd => ?_
  repeat refine pw_seq ?_
  refine pw_N [] (by rfl) (by rfl) fun K Gc Gh hK hGc hGh X hX0 hX => ?_
  simp -implicitDefEqProofs [hX0, hX]
  try clear hX0 hX X
  intro v0
  refine hK _ _ _ ?_
  clear hK hGc hGh
  clear K Gc Gh
  repeat refine pw_seq ?_
  refine pw_N [] (by rfl) (by rfl) fun K Gc Gh hK hGc hGh X hX0 hX => ?_
  simp -implicitDefEqProofs [hX0, hX]
  try clear hX0 hX X
  intros
  refine hK _ _ _ ?_
  clear hK hGc hGh
  clear K Gc Gh
  repeat refine pw_seq ?_
  refine pw_joinK (nx := nx) (σ := Nat) (fun v0 => q.any badQ = false) (fun v0 => [(1, L q), (2, .ptr nx v0 0)]) (fun _ => S) (fun v0 => [.cells v0 54 (custL c)]) ?_ ?_
  · refine pw_block (pw_loopL (fun s : Nat => s ≤ q.length ∧ (q.take s).any badQ = false) (fun k => [(1, L q), (2, .ptr nx v0 0), (6, I k)]) (fun _ => [.cells v0 54 (custL c)]) (fun s => q.length - s) 0 [] (by simp) (by simp) (by simp) ?_)
    rintro k ⟨hk, ho⟩
    repeat refine pw_seq ?_
    refine pw_N [] (by rfl) (by rfl) fun K Gc Gh hK hGc hGh X hX0 hX => ?_
    simp -implicitDefEqProofs [hX0, hX]
    try clear hX0 hX X
    intros
    refine hK _ _ _ ?_
    clear hK hGc hGh
    clear K Gc Gh
    repeat refine pw_seq ?_
    refine pw_cond rfl (fun hc => ?_) (fun hc => ?_)
    · simp at hc
      obtain ⟨z, tl, a1, a2, a3, e0⟩ := el1 rfl q k hc
      have bad : badQ z = true → nightsE c q = ([], 1) := fun h => by
        have : q.any badQ = true := by rw [List.any_eq_true]; exact ⟨z, List.mem_of_getElem? a1, h⟩
        simp [nightsE, this]
      refine pw_skip (pw_seq (pw_block ?_))
      by_cases h1 : z < 0
      · repeat refine pw_seq ?_
        refine pw_N [(5, 23)] (by rfl) (by rfl) fun K Gc Gh hK hGc hGh X hX0 hX => ?_
        simp -implicitDefEqProofs [hX0, hX, e0, hc, h1, undef]
        try clear hX0 hX X
        intros
        refine hK _ _ _ ?_
        clear hK hGc hGh
        clear K Gc Gh
        repeat refine pw_seq ?_
        refine pw_ct rfl ?_
        repeat refine pw_seq ?_
        refine pw_N [] (by rfl) (by rfl) fun K Gc Gh hK hGc hGh X hX0 hX => ?_
        simp -implicitDefEqProofs [hX0, hX]
        try clear hX0 hX X
        intros
        refine hK _ _ _ ?_
        clear hK hGc hGh
        clear K Gc Gh
        refine pw_nil_lst 4 rfl ?_
        repeat refine pw_seq ?_
        exact pw_ret (ret_pure hd (by simp; rfl) (by rw [bad (by simp [badQ, h1])]; rfl))
      by_cases h2 : (2147483648 : Int) < z
      · repeat refine pw_seq ?_
        refine pw_N [(5, 23)] (by rfl) (by rfl) fun K Gc Gh hK hGc hGh X hX0 hX => ?_
        simp -implicitDefEqProofs [hX0, hX, e0, hc, h1, h2]
        try clear hX0 hX X
        intros
        refine hK _ _ _ ?_
        clear hK hGc hGh
        clear K Gc Gh
        repeat refine pw_seq ?_
        refine pw_ct rfl ?_
        repeat refine pw_seq ?_
        refine pw_N [] (by rfl) (by rfl) fun K Gc Gh hK hGc hGh X hX0 hX => ?_
        simp -implicitDefEqProofs [hX0, hX]
        try clear hX0 hX X
        intros
        refine hK _ _ _ ?_
        clear hK hGc hGh
        clear K Gc Gh
        refine pw_nil_lst 4 rfl ?_
        repeat refine pw_seq ?_
        exact pw_ret (ret_pure hd (by simp; rfl) (by rw [bad (by simp [badQ, h2])]; rfl))
      repeat refine pw_seq ?_
      refine pw_N [(5, 23)] (by rfl) (by rfl) fun K Gc Gh hK hGc hGh X hX0 hX => ?_
      simp -implicitDefEqProofs [hX0, hX, e0, hc, h1, h2]
      try clear hX0 hX X
      intros
      refine hK _ _ _ ?_
      clear hK hGc hGh
      clear K Gc Gh
      repeat refine pw_seq ?_
      refine pw_cf rfl ?_
      refine pw_skip ?_
      repeat refine pw_seq ?_
      refine pw_N [] (by rfl) (by rfl) fun K Gc Gh hK hGc hGh X hX0 hX => ?_
      simp -implicitDefEqProofs [hX0, hX]
      try clear hX0 hX X
      intros
      refine hK _ _ _ ?_
      clear hK hGc hGh
      clear K Gc Gh
      exact again_mk (k + 1) [] ⟨hc, by rw [a3, List.any_append, ho]; simp [badQ]; omega⟩ (by omega) (by simp [wrN k (by omega)]) rfl (by simp)
    · simp at hc
      obtain rfl : k = q.length := by omega
      rw [List.take_length] at ho
      exact pw_exit (at_mk v0 [] ho (by simp) rfl (by simp))
  · intro v0 hb
    have hq0 : ∀ z ∈ q, 0 ≤ z ∧ z ≤ 2147483648 := by
      intro z hz
      rw [List.any_eq_false] at hb
      have := hb z hz
      simp [badQ] at this
      omega
    have hres : nightsE c q = match runN c.size c.rate c.start q with | none => ([], 8) | some l => (l, 0) := by unfold nightsE; rw [hb]; rfl
    repeat refine pw_seq ?_
    refine pw_N [] (by rfl) (by rfl) fun K Gc Gh hK hGc hGh X hX0 hX => ?_
    simp -implicitDefEqProofs [hX0, hX]
    try clear hX0 hX X
    intros
    refine hK _ _ _ ?_
    clear hK hGc hGh
    clear K Gc Gh
    refine pw_nilX 7 3 1 rfl fun v1 => ?_
    repeat refine pw_seq ?_
    refine pw_N [] (by rfl) (by rfl) fun K Gc Gh hK hGc hGh X hX0 hX => ?_
    simp -implicitDefEqProofs [hX0, hX]
    try clear hX0 hX X
    intros
    refine hK _ _ _ ?_
    clear hK hGc hGh
    clear K Gc Gh
    repeat refine pw_seq ?_
    refine pw_block (pw_loopL (fun s : Nat × List Int × Nat => s.1 ≤ q.length ∧ s.2.1.length = s.1 ∧ (0 ≤ c.start + (q.take s.1).sum - c.rate * s.1 ∧ c.start + (q.take s.1).sum - c.rate * s.1 ≤ 2147483648) ∧ runN c.size c.rate c.start q = (runN c.size c.rate (c.start + (q.take s.1).sum - c.rate * s.1) (q.drop s.1)).map (s.2.1 ++ ·))
      (fun (k, out, v1) => [(1, L q), (2, .ptr nx v0 0), (7, .sl (nx + 1) v1 1 0 out.length), (8, I k)])
      (fun (k, out, v1) => [.cells v0 54 (custL c), .cells v1 3 (out.flatMap Enc.enc)]) (fun s => q.length - s.1) (0, [], v1) [] ?_ (by simp) (by simp) ?_)
    · refine ⟨by simp, by simp, by simpa using hst, ?_⟩
      simp
    rintro ⟨k, out, v1⟩ ⟨hk, hol, hth, ho⟩
    simp only at hk hol hth ho ⊢
    repeat refine pw_seq ?_
    refine pw_N [] (by rfl) (by rfl) fun K Gc Gh hK hGc hGh X hX0 hX => ?_
    simp -implicitDefEqProofs [hX0, hX]
    try clear hX0 hX X
    intros
    refine hK _ _ _ ?_
    clear hK hGc hGh
    clear K Gc Gh
    repeat refine pw_seq ?_
    refine pw_cond rfl (fun hc => ?_) (fun hc => ?_)
    · simp at hc
      obtain ⟨z, tl, a1, a2, a3, e0⟩ := el1 rfl q k hc
      have hz := hq0 z (List.mem_of_getElem? a1)
      have hst1 := sum_take hq0 k hk
      have hst2 := sum_take hq0 (k + 1) hc
      have hsum : (q.take (k + 1)).sum = (q.take k).sum + z := by rw [a3, sum_snoc]
      have hrk : 0 ≤ c.rate * k ∧ c.rate * k ≤ 2147483648 * 1048576 := ⟨Int.mul_nonneg hr.1 (by omega), Int.mul_le_mul hr.2 (by omega) (by omega) (by omega)⟩
      rw [a2] at ho
      refine pw_skip (pw_seq (pw_block ?_))
      repeat refine pw_seq ?_
      refine pw_N [] (by rfl) (by rfl) fun K Gc Gh hK hGc hGh X hX0 hX => ?_
      simp -implicitDefEqProofs [hX0, hX]
      try clear hX0 hX X
      intros
      refine hK _ _ _ ?_
      clear hK hGc hGh
      clear K Gc Gh
      repeat refine pw_seq ?_
      refine pw_N [] (by rfl) (by rfl) fun K Gc Gh hK hGc hGh X hX0 hX => ?_
      simp -implicitDefEqProofs [hX0, hX]
      try clear hX0 hX X
      intros
      refine hK _ _ _ ?_
      clear hK hGc hGh
      clear K Gc Gh
      repeat refine pw_seq ?_
      refine pw_joinK (nx := nx) (σ := Nat) (fun _ => True) (fun v1 => [(1, L q), (2, .ptr nx v0 0), (7, .sl (nx + 1) v1 1 0 out.length), (8, I k), (9, I (c.start + (q.take (k + 1)).sum))]) (fun _ => S) (fun v1 => [.cells v0 54 (custL c), .cells v1 3 (out.flatMap Enc.enc)]) ?_ ?_
      · refine pw_block (pw_loopL (fun s : Nat => s ≤ k + 1) (fun j => [(1, L q), (2, .ptr nx v0 0), (7, .sl (nx + 1) v1 1 0 out.length), (8, I k), (9, I (c.start + (q.take j).sum)), (10, I j)]) (fun _ => [.cells v0 54 (custL c), .cells v1 3 (out.flatMap Enc.enc)]) (fun s => k + 1 - s) 0 [] (by simp) (by simp) (by simp) ?_)
        rintro j hj
        repeat refine pw_seq ?_
        refine pw_N [] (by rfl) (by rfl) fun K Gc Gh hK hGc hGh X hX0 hX => ?_
        simp -implicitDefEqProofs [hX0, hX]
        try clear hX0 hX X
        intros
        refine hK _ _ _ ?_
        clear hK hGc hGh
        clear K Gc Gh
        repeat refine pw_seq ?_
        refine pw_cond rfl (fun hc2 => ?_) (fun hc2 => ?_)
        · simp at hc2
          obtain ⟨y, tl2, b1, b2, b3, e2⟩ := el1 rfl q j (by omega)
          have hsj := sum_take hq0 (j + 1) (by omega)
          have hjq : j < q.length := by omega
          have hsum2 : c.start + (q.take j).sum + y = c.start + (q.take (j + 1)).sum := by rw [b3, sum_snoc]; omega
          have w1 : IntKind.i64.wrap (c.start + (q.take (j + 1)).sum) = c.start + (q.take (j + 1)).sum := wr _ (by omega) (by omega)
          refine pw_skip (pw_seq (pw_block ?_))
          repeat refine pw_seq ?_
          refine pw_N [] (by rfl) (by rfl) fun K Gc Gh hK hGc hGh X hX0 hX => ?_
          simp -implicitDefEqProofs [hX0, hX, e2, hjq, hsum2, w1]
          try clear hX0 hX X
          intros
          refine hK _ _ _ ?_
          clear hK hGc hGh
          clear K Gc Gh
          repeat refine pw_seq ?_
          refine pw_N [] (by rfl) (by rfl) fun K Gc Gh hK hGc hGh X hX0 hX => ?_
          simp -implicitDefEqProofs [hX0, hX]
          try clear hX0 hX X
          intros
          refine hK _ _ _ ?_
          clear hK hGc hGh
          clear K Gc Gh
          exact again_mk (j + 1) [] (by omega) (by omega) (by simp [wrN j (by omega)]) rfl (by simp)
        · simp at hc2
          obtain rfl : j = k + 1 := by omega
          exact pw_exit (at_mk v1 [] trivial (by simp) rfl (by simp))
      · intro v1 _
        have w1 : IntKind.i64.wrap (c.rate * (k : Int)) = c.rate * (k : Int) := wr _ (by omega) (by omega)
        have hbe : c.start + (q.take (k + 1)).sum - c.rate * (k : Int) = (c.start + (q.take k).sum - c.rate * (k : Int)) + z := by omega
        generalize hth' : c.start + (q.take k).sum - c.rate * (k : Int) = there at hth ho hbe
        have w2 : IntKind.i64.wrap (there + z) = there + z := wr _ (by omega) (by omega)
        have w3 : IntKind.i64.wrap (there + z - c.rate) = there + z - c.rate := wr _ (by omega) (by omega)
        have bad : (c.size < there + z ∨ there + z < c.rate) → nightsE c q = ([], 8) := fun h => by
          rw [hres, ho]; simp only [runN, if_pos h, Option.map_none]
        repeat refine pw_seq ?_
        refine pw_N [] (by rfl) (by rfl) fun K Gc Gh hK hGc hGh X hX0 hX => ?_
        simp -implicitDefEqProofs [hX0, hX, w1, hbe, w2]
        try clear hX0 hX X
        intros
        refine hK _ _ _ ?_
        clear hK hGc hGh
        clear K Gc Gh
        by_cases h1 : c.size < there + z
        · repeat refine pw_seq ?_
          refine pw_N [(4, 59)] (by rfl) (by rfl) fun K Gc Gh hK hGc hGh X hX0 hX => ?_
          simp -implicitDefEqProofs [hX0, hX, h1, undef]
          try clear hX0 hX X
          intros
          refine hK _ _ _ ?_
          clear hK hGc hGh
          clear K Gc Gh
          repeat refine pw_seq ?_
          refine pw_ct rfl ?_
          repeat refine pw_seq ?_
          refine pw_N [] (by rfl) (by rfl) fun K Gc Gh hK hGc hGh X hX0 hX => ?_
          simp -implicitDefEqProofs [hX0, hX]
          try clear hX0 hX X
          intros
          refine hK _ _ _ ?_
          clear hK hGc hGh
          clear K Gc Gh
          refine pw_nil_lst 4 rfl ?_
          repeat refine pw_seq ?_
          exact pw_ret (ret_pure hd (by simp; rfl) (by rw [bad (.inl h1)]; rfl))
        by_cases h2 : there + z - c.rate < 0
        · repeat refine pw_seq ?_
          refine pw_N [(4, 59)] (by rfl) (by rfl) fun K Gc Gh hK hGc hGh X hX0 hX => ?_
          simp -implicitDefEqProofs [hX0, hX, h1, h2, w3]
          try clear hX0 hX X
          intros
          refine hK _ _ _ ?_
          clear hK hGc hGh
          clear K Gc Gh
          repeat refine pw_seq ?_
          refine pw_ct rfl ?_
          repeat refine pw_seq ?_
          refine pw_N [] (by rfl) (by rfl) fun K Gc Gh hK hGc hGh X hX0 hX => ?_
          simp -implicitDefEqProofs [hX0, hX]
          try clear hX0 hX X
          intros
          refine hK _ _ _ ?_
          clear hK hGc hGh
          clear K Gc Gh
          refine pw_nil_lst 4 rfl ?_
          repeat refine pw_seq ?_
          exact pw_ret (ret_pure hd (by simp; rfl) (by rw [bad (.inr (by omega))]; rfl))
        repeat refine pw_seq ?_
        refine pw_N [(4, 59)] (by rfl) (by rfl) fun K Gc Gh hK hGc hGh X hX0 hX => ?_
        simp -implicitDefEqProofs [hX0, hX, h1, h2, w3]
        try clear hX0 hX X
        intros
        refine hK _ _ _ ?_
        clear hK hGc hGh
        clear K Gc Gh
        repeat refine pw_seq ?_
        refine pw_cf rfl ?_
        refine pw_skip ?_
        repeat refine pw_seq ?_
        refine pw_N [] (by rfl) (by rfl) fun K Gc Gh hK hGc hGh X hX0 hX => ?_
        simp -implicitDefEqProofs [hX0, hX, w3]
        try clear hX0 hX X
        refine ⟨by omega, ?_⟩
        intros
        refine hK _ _ _ ?_
        clear hK hGc hGh
        clear K Gc Gh
        repeat refine pw_seq ?_
        refine pw_N [] (by rfl) (by rfl) fun K Gc Gh hK hGc hGh X hX0 hX => ?_
        simp -implicitDefEqProofs [hX0, hX]
        try clear hX0 hX X
        intros
        refine hK _ _ _ ?_
        clear hK hGc hGh
        clear K Gc Gh
        have hnext : c.start + (q.take (k + 1)).sum - c.rate * ((k + 1 : Nat) : Int) = there + z - c.rate := by
          have : c.rate * ((k + 1 : Nat) : Int) = c.rate * (k : Int) + c.rate := by rw [show ((k + 1 : Nat) : Int) = (k : Int) + 1 by omega, Int.mul_add, Int.mul_one]
          omega
        exact again_mk (k + 1, out ++ [there + z - c.rate], v1 + 1) [] ⟨hc, by simp [hol], by dsimp only; rw [hnext]; omega, by dsimp only; rw [hnext]; exact runN_step ho h1 (by omega)⟩ (by simp; omega) (by simp [wrN k (by omega)]) rfl (by simp)
    · simp at hc
      obtain rfl : k = q.length := by omega
      rw [List.drop_length] at ho
      simp only [runN, Option.map_some, List.append_nil] at ho
      refine pw_exit ?_
      repeat refine pw_seq ?_
      refine pw_N [] (by rfl) (by rfl) fun K Gc Gh hK hGc hGh X hX0 hX => ?_
      simp -implicitDefEqProofs [hX0, hX]
      try clear hX0 hX X
      intros
      refine hK _ _ _ ?_
      clear hK hGc hGh
      clear K Gc Gh
      refine pw_frz 1 rfl ?_
      repeat refine pw_seq ?_
      exact pw_ret (ret_pure hd (by simp; rfl) (by rw [hres, ho]; simp [oneOf]))

theorem runN_len {size rate : Int} : ∀ {q : List Int} {there : Int} {l : List Int}, runN size rate there q = some l → l.length = q.length := by
  intro q
  induction q with
  | nil => intro there l h; simp only [runN, Option.some.injEq] at h; subst h; rfl
  | cons z q ih =>
    intro there l h
    simp only [runN] at h
    split at h
    · cases h
    · obtain ⟨l2, h2, rfl⟩ := Option.map_eq_some_iff.1 h
      simp [ih h2]
theorem runN_le {size rate : Int} : ∀ {q : List Int} {there : Int} {l : List Int}, runN size rate there q = some l → ∀ n ∈ l, n + rate ≤ size ∧ 0 ≤ n := by
  intro q
  induction q with
  | nil => intro there l h; simp only [runN, Option.some.injEq] at h; subst h; intro n hn; cases hn
  | cons z q ih =>
    intro there l h
    simp only [runN] at h
    split at h
    · cases h
    · obtain ⟨l2, h2, rfl⟩ := Option.map_eq_some_iff.1 h
      intro n hn
      rcases List.mem_cons.1 hn with rfl | hn
      · omega
      · exact ih h2 n hn

set_option maxRecDepth 20000 in
theorem holdsR_ok (c : Cust) (q : List Int) (hc : CustFits c) (hq : q.length ≤ 1048576) : Pure Tryz.prog 59 [.agg (custL c), L q] (I (holdsE c q)) := by
  have hni := nightsR_ok c q hc hq
  obtain ⟨hr, hsz, hst⟩ := hc
  refine pure_enter Tryz.func59 (by rfl) rfl Tryz.ntmps59 (congrArg Array.toList Tryz.results59) (by simp) fun S nx hd => ?_
  repeat refine pw_seq ?_
  refine pw_N [] (by rfl) (by rfl) fun K Gc Gh hK hGc hGh X hX0 hX => ?_
  simp -implicitDefEqProofs [hX0, hX]
  try clear hX0 hX X
  intro v0
  refine hK _ _ _ ?_
  clear hK hGc hGh
  clear K Gc Gh
  repeat refine pw_seq ?_
  refine pw_N [] (by rfl) (by rfl) fun K Gc Gh hK hGc hGh X hX0 hX => ?_
  simp -implicitDefEqProofs [hX]
  try clear hX0 hX X
  refine hGc _ _ _ _ _ _ _ fun hsuf => ((hni _).mono ?_).v
  rintro _ _ ⟨rfl, rfl⟩
  refine ⟨_, _, rfl, ?_⟩
  clear hGc hGh
  clear Gc Gh
  refine xs_go hsuf (D := []) (by rfl) fun Gc Gh hGc hGh X hX0 hX => ?_
  simp -implicitDefEqProofs [hX0, hX]
  try clear hX0 hX X
  intros
  refine hK _ _ _ ?_
  clear hK hGc hGh
  clear K Gc Gh
  by_cases he : (nightsE c q).2 = 0
  case neg =>
    repeat refine pw_seq ?_
    refine pw_N [] (by rfl) (by rfl) fun K Gc Gh hK hGc hGh X hX0 hX => ?_
    simp -implicitDefEqProofs [hX0, hX, he]
    try clear hX0 hX X
    intros
    refine hK _ _ _ ?_
    clear hK hGc hGh
    clear K Gc Gh
    repeat refine pw_seq ?_
    refine pw_ct (by simp) ?_
    repeat refine pw_seq ?_
    refine pw_N [] (by rfl) (by rfl) fun K Gc Gh hK hGc hGh X hX0 hX => ?_
    simp -implicitDefEqProofs [hX0, hX]
    try clear hX0 hX X
    intros
    refine hK _ _ _ ?_
    clear hK hGc hGh
    clear K Gc Gh
    repeat refine pw_seq ?_
    exact pw_ret (ret_pure hd (by simp; rfl) (by simp [holdsE, he, oneOf]))
  repeat refine pw_seq ?_
  refine pw_N [] (by rfl) (by rfl) fun K Gc Gh hK hGc hGh X hX0 hX => ?_
  simp -implicitDefEqProofs [hX0, hX, he]
  try clear hX0 hX X
  intros
  refine hK _ _ _ ?_
  clear hK hGc hGh
  clear K Gc Gh
  repeat refine pw_seq ?_
  refine pw_cf (by simp) ?_
  refine pw_skip ?_
  have hres : holdsE c q = if c.rule ≠ 1 then 0 else if fillB c.rate c.size q (nightsE c q).1 then 9 else 0 := by simp [holdsE, he]
  obtain ⟨l, hl, hl1⟩ : ∃ l, runN c.size c.rate c.start q = some l ∧ (nightsE c q).1 = l := by
    unfold nightsE at he ⊢
    split at he
    · simp at he
    · rename_i hb
      cases hrn : runN c.size c.rate c.start q with
      | none => simp [hrn] at he
      | some l => exact ⟨l, rfl, by simp [hb]⟩
  rw [hl1] at hres ⊢
  have hll := runN_len hl
  repeat refine pw_seq ?_
  refine pw_N [] (by rfl) (by rfl) fun K Gc Gh hK hGc hGh X hX0 hX => ?_
  simp -implicitDefEqProofs [hX0, hX]
  try clear hX0 hX X
  intros
  refine hK _ _ _ ?_
  clear hK hGc hGh
  clear K Gc Gh
  repeat refine pw_seq ?_
  refine pw_block (pw_loopL (fun s : Nat => s ≤ q.length ∧ (c.rule = 1 → fillB c.rate c.size q l = fillB c.rate c.size (q.drop s) (l.drop s)))
    (fun k => [(1, L q), (2, .ptr nx v0 0), (5, L l), (7, I k)]) (fun k => [.cells v0 54 (custL c)]) (fun s => q.length - s) 0 [] ⟨by simp, by simp⟩ (by simp) (by simp) ?_)
  rintro k ⟨hk, ho⟩
  repeat refine pw_seq ?_
  refine pw_N [] (by rfl) (by rfl) fun K Gc Gh hK hGc hGh X hX0 hX => ?_
  simp -implicitDefEqProofs [hX0, hX]
  try clear hX0 hX X
  intros
  refine hK _ _ _ ?_
  clear hK hGc hGh
  clear K Gc Gh
  repeat refine pw_seq ?_
  refine pw_cond rfl (fun hc => ?_) (fun hc => ?_)
  · simp at hc
    obtain ⟨z, tl, a1, a2, a3, e0⟩ := el1 rfl q k hc
    obtain ⟨n, tl2, b1, b2, b3, e2⟩ := el1 rfl l k (by omega)
    have hkl : k < l.length := by omega
    have hnl := runN_le hl n (List.mem_of_getElem? b1)
    rw [a2, b2] at ho
    simp only [fillB] at ho
    have w1 : IntKind.i64.wrap (n + c.rate) = n + c.rate := wr _ (by omega) (by omega)
    refine pw_skip (pw_seq (pw_block ?_))
    by_cases h0 : c.rule = 1
    · have ho := ho h0
      by_cases h1 : 0 < z
      · by_cases h2 : n + c.rate = c.size
        · have w4 : IntKind.i64.wrap c.size = c.size := wr _ (by omega) (by omega)
          repeat refine pw_seq ?_
          refine pw_Y (some [nx]) (Row.pures [0, 1, 2, 3, 4, 5, 6, 7, 8, 9, 10, 11, 12, 13, 14, 15, 16, 17, 18, 19, 20, 21] .done) mixed (by rfl) (by rfl) (by rfl) fun K Gp Gc Gh hK hGp hGc hGh X hX0 hX1 hX2 hX => ?_
          simp -implicitDefEqProofs [hX0, hX2, e0, e2, hc, hkl, h0, h1, h2, w4]
          try clear hX0 hX1 hX2 hX X
          refine hK _ _ _ ?_
          clear hK hGp hGc hGh
          clear K Gp Gc Gh
          repeat refine pw_seq ?_
          refine pw_cf (by simp) ?_
          refine pw_skip ?_
          repeat refine pw_seq ?_
          refine pw_N [] (by rfl) (by rfl) fun K Gc Gh hK hGc hGh X hX0 hX => ?_
          simp -implicitDefEqProofs [hX0, hX]
          try clear hX0 hX X
          intros
          refine hK _ _ _ ?_
          clear hK hGc hGh
          clear K Gc Gh
          exact again_mk (k + 1) [] ⟨hc, fun _ => by rw [ho, decide_eq_false (by omega), Bool.false_or]⟩ (by omega) (by simp [wrN k (by omega)]) rfl (by simp)
        · repeat refine pw_seq ?_
          refine pw_Y (some [nx]) (Row.pures [0, 1, 2, 3, 4, 5, 6, 7, 8, 9, 10, 11, 12, 13, 14, 15, 16, 17, 18, 19, 20, 21] .done) mixed (by rfl) (by rfl) (by rfl) fun K Gp Gc Gh hK hGp hGc hGh X hX0 hX1 hX2 hX => ?_
          simp -implicitDefEqProofs [hX0, hX2, e0, e2, hc, hkl, h0, h1, w1, h2]
          try clear hX0 hX1 hX2 hX X
          refine hK _ _ _ ?_
          clear hK hGp hGc hGh
          clear K Gp Gc Gh
          repeat refine pw_seq ?_
          refine pw_ct (by simp) ?_
          repeat refine pw_seq ?_
          refine pw_N [] (by rfl) (by rfl) fun K Gc Gh hK hGc hGh X hX0 hX => ?_
          simp -implicitDefEqProofs [hX0, hX]
          try clear hX0 hX X
          intros
          refine hK _ _ _ ?_
          clear hK hGc hGh
          clear K Gc Gh
          repeat refine pw_seq ?_
          exact pw_ret (ret_pure hd (by simp; rfl) (by rw [hres, ho]; simp [h0, h1, h2, oneOf]))
      · repeat refine pw_seq ?_
        refine pw_Y (some [nx]) (Row.pures [0, 1, 2, 3, 4, 5, 6, 7, 8, 9, 10, 11, 12, 13, 14, 15, 16, 17, 18, 19, 20, 21] .done) mixed (by rfl) (by rfl) (by rfl) fun K Gp Gc Gh hK hGp hGc hGh X hX0 hX1 hX2 hX => ?_
        simp -implicitDefEqProofs [hX0, hX2, e0, hc, h0, h1, undef]
        try clear hX0 hX1 hX2 hX X
        refine hK _ _ _ ?_
        clear hK hGp hGc hGh
        clear K Gp Gc Gh
        repeat refine pw_seq ?_
        refine pw_cf (by simp) ?_
        refine pw_skip ?_
        repeat refine pw_seq ?_
        refine pw_N [] (by rfl) (by rfl) fun K Gc Gh hK hGc hGh X hX0 hX => ?_
        simp -implicitDefEqProofs [hX0, hX]
        try clear hX0 hX X
        intros
        refine hK _ _ _ ?_
        clear hK hGc hGh
        clear K Gc Gh
        exact again_mk (k + 1) [] ⟨hc, fun _ => by rw [ho, decide_eq_false (by omega), Bool.false_or]⟩ (by omega) (by simp [wrN k (by omega)]) rfl (by simp)
    · repeat refine pw_seq ?_
      refine pw_Y (some [nx]) (Row.pures [0, 1, 2, 3, 4, 5, 6, 7, 8, 9, 10, 11, 12, 13, 14, 15, 16, 17, 18, 19, 20, 21] .done) mixed (by rfl) (by rfl) (by rfl) fun K Gp Gc Gh hK hGp hGc hGh X hX0 hX1 hX2 hX => ?_
      simp -implicitDefEqProofs [hX0, hX2, h0, undef]
      try clear hX0 hX1 hX2 hX X
      refine hK _ _ _ ?_
      clear hK hGp hGc hGh
      clear K Gp Gc Gh
      repeat refine pw_seq ?_
      refine pw_cf (by simp) ?_
      refine pw_skip ?_
      repeat refine pw_seq ?_
      refine pw_N [] (by rfl) (by rfl) fun K Gc Gh hK hGc hGh X hX0 hX => ?_
      simp -implicitDefEqProofs [hX0, hX]
      try clear hX0 hX X
      intros
      refine hK _ _ _ ?_
      clear hK hGc hGh
      clear K Gc Gh
      exact again_mk (k + 1) [] ⟨hc, fun q => absurd q h0⟩ (by omega) (by simp [wrN k (by omega)]) rfl (by simp)
  · simp at hc
    obtain rfl : k = q.length := by omega
    rw [List.drop_length] at ho
    simp only [fillB] at ho
    refine pw_exit ?_
    repeat refine pw_seq ?_
    refine pw_N [] (by rfl) (by rfl) fun K Gc Gh hK hGc hGh X hX0 hX => ?_
    simp -implicitDefEqProofs [hX0, hX]
    try clear hX0 hX X
    intros
    refine hK _ _ _ ?_
    clear hK hGc hGh
    clear K Gc Gh
    repeat refine pw_seq ?_
    exact pw_ret (ret_pure hd (by simp; rfl) (by rw [hres]; by_cases h0 : c.rule = 1; simp [h0, ho h0, oneOf]; simp [h0, oneOf]))

end Go.Proofs.YtlkcdaeknioanaaGreat.Pv
