/- tranterref06.May; tranterref12.Day, Cost. -/
import Derived.Test.YtlkcdaeknioanaaGreatLg
namespace Go.Proofs.YtlkcdaeknioanaaGreat.Pv
open Go

set_option maxRecDepth 20000 in
theorem mayIR_ok (x : Inst) (hx : InstOk x) : Pure Tryz.prog 15 [.agg (instL x)] (B (mayI x)) := by
  have hnc := hx.ncust
  refine pure_enter Tryz.func15 (by rfl) rfl Tryz.ntmps15 (congrArg Array.toList Tryz.results15) (by simp) fun S nx hd => ?_
  repeat refine pw_seq ?_
  refine pw_N [] (by rfl) (by rfl) fun K Gc Gh hK hGc hGh X hX0 hX => ?_
  simp -implicitDefEqProofs [hX0, hX]
  try clear hX0 hX X
  intro v0
  refine hK _ _ _ ?_
  clear hK hGc hGh
  clear K Gc Gh
  repeat refine pw_seq ?_
  refine pw_N [] (by rfl) (by rfl) fun K Gc Gh hK hGc hGh X hX0 hX => ?_
  simp -implicitDefEqProofs [hX0, hX]
  try clear hX0 hX X
  intros
  refine hK _ _ _ ?_
  clear hK hGc hGh
  clear K Gc Gh
  by_cases h1 : x.days < 1
  · repeat refine pw_seq ?_
    refine pw_N [(3, 14), (8, 19), (13, 24), (18, 29), (23, 34), (28, 39), (33, 44), (38, 49), (42, 53)] (by rfl) (by rfl) fun K Gc Gh hK hGc hGh X hX0 hX => ?_
    simp -implicitDefEqProofs [hX0, hX, h1, undef]
    try clear hX0 hX X
    intros
    refine hK _ _ _ ?_
    clear hK hGc hGh
    clear K Gc Gh
    repeat refine pw_seq ?_
    refine pw_ct rfl ?_
    repeat refine pw_seq ?_
    refine pw_N [] (by rfl) (by rfl) fun K Gc Gh hK hGc hGh X hX0 hX => ?_
    simp -implicitDefEqProofs [hX0, hX]
    try clear hX0 hX X
    intros
    refine hK _ _ _ ?_
    clear hK hGc hGh
    clear K Gc Gh
    repeat refine pw_seq ?_
    exact pw_ret (ret_pure hd rfl (by simp [mayI, fromB, oneOf, show ¬ 1 ≤ x.days by omega]))
  by_cases h2 : (64 : Int) < x.days
  · repeat refine pw_seq ?_
    refine pw_N [(3, 14), (8, 19), (13, 24), (18, 29), (23, 34), (28, 39), (33, 44), (38, 49), (42, 53)] (by rfl) (by rfl) fun K Gc Gh hK hGc hGh X hX0 hX => ?_
    simp -implicitDefEqProofs [hX0, hX, h2, h1, undef]
    try clear hX0 hX X
    intros
    refine hK _ _ _ ?_
    clear hK hGc hGh
    clear K Gc Gh
    repeat refine pw_seq ?_
    refine pw_ct rfl ?_
    repeat refine pw_seq ?_
    refine pw_N [] (by rfl) (by rfl) fun K Gc Gh hK hGc hGh X hX0 hX => ?_
    simp -implicitDefEqProofs [hX0, hX]
    try clear hX0 hX X
    intros
    refine hK _ _ _ ?_
    clear hK hGc hGh
    clear K Gc Gh
    repeat refine pw_seq ?_
    exact pw_ret (ret_pure hd rfl (by simp [mayI, fromB, oneOf, show ¬ x.days ≤ 64 by omega]))
  by_cases h3 : x.veh < 0
  · repeat refine pw_seq ?_
    refine pw_N [(3, 14), (8, 19), (13, 24), (18, 29), (23, 34), (28, 39), (33, 44), (38, 49), (42, 53)] (by rfl) (by rfl) fun K Gc Gh hK hGc hGh X hX0 hX => ?_
    simp -implicitDefEqProofs [hX0, hX, h3, h1, h2, undef]
    try clear hX0 hX X
    intros
    refine hK _ _ _ ?_
    clear hK hGc hGh
    clear K Gc Gh
    repeat refine pw_seq ?_
    refine pw_ct rfl ?_
    repeat refine pw_seq ?_
    refine pw_N [] (by rfl) (by rfl) fun K Gc Gh hK hGc hGh X hX0 hX => ?_
    simp -implicitDefEqProofs [hX0, hX]
    try clear hX0 hX X
    intros
    refine hK _ _ _ ?_
    clear hK hGc hGh
    clear K Gc Gh
    repeat refine pw_seq ?_
    exact pw_ret (ret_pure hd rfl (by simp [mayI, fromB, oneOf, show ¬ 0 ≤ x.veh by omega]))
  by_cases h4 : (2147483648 : Int) < x.veh
  · repeat refine pw_seq ?_
    refine pw_N [(3, 14), (8, 19), (13, 24), (18, 29), (23, 34), (28, 39), (33, 44), (38, 49), (42, 53)] (by rfl) (by rfl) fun K Gc Gh hK hGc hGh X hX0 hX => ?_
    simp -implicitDefEqProofs [hX0, hX, h4, h1, h2, h3, undef]
    try clear hX0 hX X
    intros
    refine hK _ _ _ ?_
    clear hK hGc hGh
    clear K Gc Gh
    repeat refine pw_seq ?_
    refine pw_ct rfl ?_
    repeat refine pw_seq ?_
    refine pw_N [] (by rfl) (by rfl) fun K Gc Gh hK hGc hGh X hX0 hX => ?_
    simp -implicitDefEqProofs [hX0, hX]
    try clear hX0 hX X
    intros
    refine hK _ _ _ ?_
    clear hK hGc hGh
    clear K Gc Gh
    repeat refine pw_seq ?_
    exact pw_ret (ret_pure hd rfl (by simp [mayI, fromB, oneOf, show ¬ x.veh ≤ 2147483648 by omega]))
  by_cases h5 : x.cap < 0
  · repeat refine pw_seq ?_
    refine pw_N [(3, 14), (8, 19), (13, 24), (18, 29), (23, 34), (28, 39), (33, 44), (38, 49), (42, 53)] (by rfl) (by rfl) fun K Gc Gh hK hGc hGh X hX0 hX => ?_
    simp -implicitDefEqProofs [hX0, hX, h5, h1, h2, h3, h4, undef]
    try clear hX0 hX X
    intros
    refine hK _ _ _ ?_
    clear hK hGc hGh
    clear K Gc Gh
    repeat refine pw_seq ?_
    refine pw_ct rfl ?_
    repeat refine pw_seq ?_
    refine pw_N [] (by rfl) (by rfl) fun K Gc Gh hK hGc hGh X hX0 hX => ?_
    simp -implicitDefEqProofs [hX0, hX]
    try clear hX0 hX X
    intros
    refine hK _ _ _ ?_
    clear hK hGc hGh
    clear K Gc Gh
    repeat refine pw_seq ?_
    exact pw_ret (ret_pure hd rfl (by simp [mayI, fromB, oneOf, show ¬ 0 ≤ x.cap by omega]))
  by_cases h6 : (2147483648 : Int) < x.cap
  · repeat refine pw_seq ?_
    refine pw_N [(3, 14), (8, 19), (13, 24), (18, 29), (23, 34), (28, 39), (33, 44), (38, 49), (42, 53)] (by rfl) (by rfl) fun K Gc Gh hK hGc hGh X hX0 hX => ?_
    simp -implicitDefEqProofs [hX0, hX, h6, h1, h2, h3, h4, h5, undef]
    try clear hX0 hX X
    intros
    refine hK _ _ _ ?_
    clear hK hGc hGh
    clear K Gc Gh
    repeat refine pw_seq ?_
    refine pw_ct rfl ?_
    repeat refine pw_seq ?_
    refine pw_N [] (by rfl) (by rfl) fun K Gc Gh hK hGc hGh X hX0 hX => ?_
    simp -implicitDefEqProofs [hX0, hX]
    try clear hX0 hX X
    intros
    refine hK _ _ _ ?_
    clear hK hGc hGh
    clear K Gc Gh
    repeat refine pw_seq ?_
    exact pw_ret (ret_pure hd rfl (by simp [mayI, fromB, oneOf, show ¬ x.cap ≤ 2147483648 by omega]))
  by_cases h7 : x.len < 0
  · repeat refine pw_seq ?_
    refine pw_N [(3, 14), (8, 19), (13, 24), (18, 29), (23, 34), (28, 39), (33, 44), (38, 49), (42, 53)] (by rfl) (by rfl) fun K Gc Gh hK hGc hGh X hX0 hX => ?_
    simp -implicitDefEqProofs [hX0, hX, h7, h1, h2, h3, h4, h5, h6, undef]
    try clear hX0 hX X
    intros
    refine hK _ _ _ ?_
    clear hK hGc hGh
    clear K Gc Gh
    repeat refine pw_seq ?_
    refine pw_ct rfl ?_
    repeat refine pw_seq ?_
    refine pw_N [] (by rfl) (by rfl) fun K Gc Gh hK hGc hGh X hX0 hX => ?_
    simp -implicitDefEqProofs [hX0, hX]
    try clear hX0 hX X
    intros
    refine hK _ _ _ ?_
    clear hK hGc hGh
    clear K Gc Gh
    repeat refine pw_seq ?_
    exact pw_ret (ret_pure hd rfl (by simp [mayI, fromB, oneOf, show ¬ 0 ≤ x.len by omega]))
  by_cases h8 : (2147483648 : Int) < x.len
  · repeat refine pw_seq ?_
    refine pw_N [(3, 14), (8, 19), (13, 24), (18, 29), (23, 34), (28, 39), (33, 44), (38, 49), (42, 53)] (by rfl) (by rfl) fun K Gc Gh hK hGc hGh X hX0 hX => ?_
    simp -implicitDefEqProofs [hX0, hX, h8, h1, h2, h3, h4, h5, h6, h7, undef]
    try clear hX0 hX X
    intros
    refine hK _ _ _ ?_
    clear hK hGc hGh
    clear K Gc Gh
    repeat refine pw_seq ?_
    refine pw_ct rfl ?_
    repeat refine pw_seq ?_
    refine pw_N [] (by rfl) (by rfl) fun K Gc Gh hK hGc hGh X hX0 hX => ?_
    simp -implicitDefEqProofs [hX0, hX]
    try clear hX0 hX X
    intros
    refine hK _ _ _ ?_
    clear hK hGc hGh
    clear K Gc Gh
    repeat refine pw_seq ?_
    exact pw_ret (ret_pure hd rfl (by simp [mayI, fromB, oneOf, show ¬ x.len ≤ 2147483648 by omega]))
  by_cases h9 : (2000 : Int) < (x.cust.length : Int)
  · repeat refine pw_seq ?_
    refine pw_N [(3, 14), (8, 19), (13, 24), (18, 29), (23, 34), (28, 39), (33, 44), (38, 49), (42, 53)] (by rfl) (by rfl) fun K Gc Gh hK hGc hGh X hX0 hX => ?_
    simp -implicitDefEqProofs [hX0, hX, h9, h1, h2, h3, h4, h5, h6, h7, h8, undef]
    try clear hX0 hX X
    intros
    refine hK _ _ _ ?_
    clear hK hGc hGh
    clear K Gc Gh
    repeat refine pw_seq ?_
    refine pw_ct rfl ?_
    repeat refine pw_seq ?_
    refine pw_N [] (by rfl) (by rfl) fun K Gc Gh hK hGc hGh X hX0 hX => ?_
    simp -implicitDefEqProofs [hX0, hX]
    try clear hX0 hX X
    intros
    refine hK _ _ _ ?_
    clear hK hGc hGh
    clear K Gc Gh
    repeat refine pw_seq ?_
    exact pw_ret (ret_pure hd rfl (by simp [mayI, oneOf, show ¬ x.cust.length ≤ 2000 by omega]))
  have w1 := wrN x.cust.length (by omega)
  have w1' : IntKind.i64.wrap ((x.cust.length : Int) + 1) = (x.cust.length : Int) + 1 := by rw [w1]; omega
  by_cases h10 : (x.dist.length : Int) = (x.cust.length : Int) + 1
  case neg =>
    repeat refine pw_seq ?_
    refine pw_N [(3, 14), (8, 19), (13, 24), (18, 29), (23, 34), (28, 39), (33, 44), (38, 49), (42, 53)] (by rfl) (by rfl) fun K Gc Gh hK hGc hGh X hX0 hX => ?_
    simp -implicitDefEqProofs [hX0, hX, h1, h2, h3, h4, h5, h6, h7, h8, h9, h10, w1']
    try clear hX0 hX X
    intros
    refine hK _ _ _ ?_
    clear hK hGc hGh
    clear K Gc Gh
    repeat refine pw_seq ?_
    refine pw_ct (by simp) ?_
    repeat refine pw_seq ?_
    refine pw_N [] (by rfl) (by rfl) fun K Gc Gh hK hGc hGh X hX0 hX => ?_
    simp -implicitDefEqProofs [hX0, hX]
    try clear hX0 hX X
    intros
    refine hK _ _ _ ?_
    clear hK hGc hGh
    clear K Gc Gh
    repeat refine pw_seq ?_
    exact pw_ret (ret_pure hd rfl (by simp [mayI, distB, oneOf, show ¬ x.dist.length = x.cust.length + 1 by omega]))
  have h10' : x.dist.length = x.cust.length + 1 := by omega
  repeat refine pw_seq ?_
  refine pw_N [(3, 14), (8, 19), (13, 24), (18, 29), (23, 34), (28, 39), (33, 44), (38, 49), (42, 53)] (by rfl) (by rfl) fun K Gc Gh hK hGc hGh X hX0 hX => ?_
  simp -implicitDefEqProofs [hX0, hX, h1, h2, h3, h4, h5, h6, h7, h8, h9, h10, w1']
  try clear hX0 hX X
  intros
  refine hK _ _ _ ?_
  clear hK hGc hGh
  clear K Gc Gh
  repeat refine pw_seq ?_
  refine pw_cf (by simp) ?_
  refine pw_skip ?_
  have hres : mayI x = (x.cust.all (custMayB · x.days) && distR (x.cust.length + 1) 0 x.dist) := by
    have e1 : fromB x.days 1 64 = true := by simp [fromB]; omega
    have e2 : fromB x.veh 0 2147483648 = true := by simp [fromB]; omega
    have e3 : fromB x.cap 0 2147483648 = true := by simp [fromB]; omega
    have e4 : fromB x.len 0 2147483648 = true := by simp [fromB]; omega
    have e5 : x.cust.length ≤ 2000 := by omega
    simp [mayI, e1, e2, e3, e4, e5, distB, h10']
  rw [hres]
  clear hres
  repeat refine pw_seq ?_
  refine pw_N [] (by rfl) (by rfl) fun K Gc Gh hK hGc hGh X hX0 hX => ?_
  simp -implicitDefEqProofs [hX0, hX]
  try clear hX0 hX X
  intros
  refine hK _ _ _ ?_
  clear hK hGc hGh
  clear K Gc Gh
  repeat refine pw_seq ?_
  refine pw_block (pw_loopL (fun s : Nat => s ≤ x.cust.length ∧ (x.cust.take s).all (custMayB · x.days) = true) (fun k => [(1, .ptr nx v0 0), (3, I x.cust.length), (4, I k)]) (fun _ => [.cells v0 25 (instL x)]) (fun s => x.cust.length - s) 0 [] (by simp) (by simp) (by simp) ?_)
  rintro k ⟨hk, ho⟩
  repeat refine pw_seq ?_
  refine pw_N [] (by rfl) (by rfl) fun K Gc Gh hK hGc hGh X hX0 hX => ?_
  simp -implicitDefEqProofs [hX0, hX]
  try clear hX0 hX X
  intros
  refine hK _ _ _ ?_
  clear hK hGc hGh
  clear K Gc Gh
  repeat refine pw_seq ?_
  refine pw_cond rfl (fun hc => ?_) (fun hc => ?_)
  · simp at hc
    obtain ⟨c, tl, a1, a2, a3, _, e0⟩ := el 8 rfl x.cust k hc
    have hcm := List.mem_of_getElem? a1
    have hco := hx.cust c hcm
    refine pw_skip (pw_seq (pw_block ?_))
    repeat refine pw_seq ?_
    refine pw_Y none (Row.pures [0, 1, 2, 3, 4, 5, 6, 7, 8] .done) mixed (by rfl) (by rfl) (by rfl) fun K Gp Gc Gh hK hGp hGc hGh X hX0 hX1 hX2 hX => ?_
    simp -implicitDefEqProofs [hX2, hc, e0]
    try clear hX0 hX1 hX2 hX X
    refine hGp _ _ _ _ _ _ _ _ (customerR_ok c x.days hco.pats hco.npats) ?_
    clear hGp hGc hGh
    clear Gp Gc Gh
    refine px_go fun Gp Gc Gh hGp hGc hGh X hX0 hX1 hX2 hX => ?_
    simp -implicitDefEqProofs [hX0, hX2]
    try clear hX0 hX1 hX2 hX X
    refine hK _ _ _ ?_
    clear hK hGp hGc hGh
    clear K Gp Gc Gh
    repeat refine pw_seq ?_
    refine pw_N [] (by rfl) (by rfl) fun K Gc Gh hK hGc hGh X hX0 hX => ?_
    simp -implicitDefEqProofs [hX0, hX]
    try clear hX0 hX X
    intros
    refine hK _ _ _ ?_
    clear hK hGc hGh
    clear K Gc Gh
    cases hb : custMayB c x.days with
    | false =>
      have hr2 : x.cust.all (custMayB · x.days) = false := by rw [List.all_eq_false]; exact ⟨c, hcm, by simp [hb]⟩
      repeat refine pw_seq ?_
      refine pw_ct rfl ?_
      repeat refine pw_seq ?_
      refine pw_N [] (by rfl) (by rfl) fun K Gc Gh hK hGc hGh X hX0 hX => ?_
      simp -implicitDefEqProofs [hX0, hX]
      try clear hX0 hX X
      intros
      refine hK _ _ _ ?_
      clear hK hGc hGh
      clear K Gc Gh
      repeat refine pw_seq ?_
      exact pw_ret (ret_pure hd (by simp; rfl) (by simp only [hr2, oneOf, Bool.false_and]))
    | true =>
      repeat refine pw_seq ?_
      refine pw_cf rfl ?_
      refine pw_skip ?_
      repeat refine pw_seq ?_
      refine pw_N [] (by rfl) (by rfl) fun K Gc Gh hK hGc hGh X hX0 hX => ?_
      simp -implicitDefEqProofs [hX0, hX]
      try clear hX0 hX X
      intros
      refine hK _ _ _ ?_
      clear hK hGc hGh
      clear K Gc Gh
      exact again_mk (k + 1) [] ⟨hc, by rw [a3, List.all_append, ho]; simp [hb]⟩ (by omega) (by simp [wrN k (by omega)]) rfl (by simp)
  · simp at hc
    obtain rfl : k = x.cust.length := by omega
    rw [List.take_length] at ho
    rw [ho, Bool.true_and]
    refine pw_exit ?_
    repeat refine pw_seq ?_
    refine pw_N [] (by rfl) (by rfl) fun K Gc Gh hK hGc hGh X hX0 hX => ?_
    simp -implicitDefEqProofs [hX0, hX]
    try clear hX0 hX X
    intros
    refine hK _ _ _ ?_
    clear hK hGc hGh
    clear K Gc Gh
    generalize hn : x.cust.length = n at *
    repeat refine pw_seq ?_
    refine pw_block (pw_loopL (fun s : Nat => s ≤ n + 1 ∧ distR (n + 1) 0 x.dist = distR (n + 1) s (x.dist.drop s)) (fun k => [(1, .ptr nx v0 0), (3, I n), (6, I k)]) (fun _ => [.cells v0 25 (instL x)]) (fun s => n + 1 - s) 0 [] (by simp) (by simp) (by simp) ?_)
    rintro a ⟨ha, hr⟩
    repeat refine pw_seq ?_
    refine pw_N [] (by rfl) (by rfl) fun K Gc Gh hK hGc hGh X hX0 hX => ?_
    simp -implicitDefEqProofs [hX0, hX]
    try clear hX0 hX X
    intros
    refine hK _ _ _ ?_
    clear hK hGc hGh
    clear K Gc Gh
    repeat refine pw_seq ?_
    refine pw_cond rfl (fun hc2 => ?_) (fun hc2 => ?_)
    · simp at hc2
      have hal : a < x.dist.length := by omega
      obtain ⟨row, tl, a1, a2, a3, e0⟩ := el1 rfl x.dist a hal
      have hrow := hx.dist row (List.mem_of_getElem? a1)
      rw [a2] at hr
      simp only [distR] at hr
      have bad : (row.length = n + 1 ∧ row.getD a 0 = 0 → row.all (fromB · 0 2147483648) = false) → distR (n + 1) 0 x.dist = false := by
        intro q
        rw [hr]
        by_cases q1 : row.length = n + 1
        · by_cases q2 : row.getD a 0 = 0
          · rw [q ⟨q1, q2⟩]; simp
          · simp only [q2, decide_false, Bool.and_false, Bool.false_and]
        · simp only [q1, decide_false, Bool.false_and]
      refine pw_skip (pw_seq (pw_block ?_))
      by_cases h2 : row.length = n + 1
      case neg =>
        have hres := bad (fun q => absurd q.1 h2)
        have h2' : ¬ ((row.length : Int) = (n : Int) + 1) := by omega
        repeat refine pw_seq ?_
        refine pw_N [] (by rfl) (by rfl) fun K Gc Gh hK hGc hGh X hX0 hX => ?_
        simp -implicitDefEqProofs [hX0, hX, hal, e0, h2', w1']
        try clear hX0 hX X
        intros
        refine hK _ _ _ ?_
        clear hK hGc hGh
        clear K Gc Gh
        repeat refine pw_seq ?_
        refine pw_ct (by simp) ?_
        repeat refine pw_seq ?_
        refine pw_N [] (by rfl) (by rfl) fun K Gc Gh hK hGc hGh X hX0 hX => ?_
        simp -implicitDefEqProofs [hX0, hX]
        try clear hX0 hX X
        intros
        refine hK _ _ _ ?_
        clear hK hGc hGh
        clear K Gc Gh
        repeat refine pw_seq ?_
        exact pw_ret (ret_pure hd (by simp; rfl) (by simp only [hres, oneOf]))
      have h2' : ((row.length : Int) = (n : Int) + 1) := by omega
      repeat refine pw_seq ?_
      refine pw_N [] (by rfl) (by rfl) fun K Gc Gh hK hGc hGh X hX0 hX => ?_
      simp -implicitDefEqProofs [hX0, hX, hal, e0, h2', w1']
      try clear hX0 hX X
      intros
      refine hK _ _ _ ?_
      clear hK hGc hGh
      clear K Gc Gh
      repeat refine pw_seq ?_
      refine pw_cf (by simp) ?_
      refine pw_skip ?_
      repeat refine pw_seq ?_
      refine pw_N [] (by rfl) (by rfl) fun K Gc Gh hK hGc hGh X hX0 hX => ?_
      simp -implicitDefEqProofs [hX0, hX]
      try clear hX0 hX X
      intros
      refine hK _ _ _ ?_
      clear hK hGc hGh
      clear K Gc Gh
      repeat refine pw_seq ?_
      refine pw_block (pw_loopL (fun s : Nat => s ≤ n + 1 ∧ (row.take s).all (fromB · 0 2147483648) = true ∧ (a < s → row.getD a 0 = 0)) (fun j => [(1, .ptr nx v0 0), (3, I n), (6, I a), (7, I j)]) (fun _ => [.cells v0 25 (instL x)]) (fun s => n + 1 - s) 0 [] (by simp) (by simp) (by simp) ?_)
      rintro b ⟨hb, hr1, hr2⟩
      repeat refine pw_seq ?_
      refine pw_N [] (by rfl) (by rfl) fun K Gc Gh hK hGc hGh X hX0 hX => ?_
      simp -implicitDefEqProofs [hX0, hX]
      try clear hX0 hX X
      intros
      refine hK _ _ _ ?_
      clear hK hGc hGh
      clear K Gc Gh
      repeat refine pw_seq ?_
      refine pw_cond rfl (fun hc3 => ?_) (fun hc3 => ?_)
      · simp at hc3
        have hbl : b < row.length := by omega
        obtain ⟨d, tl2, b1, b2, b3, e2⟩ := el1 rfl row b hbl
        have hdm := List.mem_of_getElem? b1
        have hbn : b < n + 1 := by omega
        refine pw_skip (pw_seq (pw_block ?_))
        by_cases g1 : d < 0
        · have hres := bad (fun _ => by rw [List.all_eq_false]; exact ⟨d, hdm, by simp [fromB]; omega⟩)
          repeat refine pw_seq ?_
          refine pw_N [(9, 104), (20, 115), (24, 119)] (by rfl) (by rfl) fun K Gc Gh hK hGc hGh X hX0 hX => ?_
          simp -implicitDefEqProofs [hX0, hX, hal, e0, hbl, e2, g1, undef]
          try clear hX0 hX X
          intros
          refine hK _ _ _ ?_
          clear hK hGc hGh
          clear K Gc Gh
          repeat refine pw_seq ?_
          refine pw_ct rfl ?_
          repeat refine pw_seq ?_
          refine pw_N [] (by rfl) (by rfl) fun K Gc Gh hK hGc hGh X hX0 hX => ?_
          simp -implicitDefEqProofs [hX0, hX]
          try clear hX0 hX X
          intros
          refine hK _ _ _ ?_
          clear hK hGc hGh
          clear K Gc Gh
          repeat refine pw_seq ?_
          exact pw_ret (ret_pure hd (by simp; rfl) (by simp only [hres, oneOf]))
        by_cases g2 : (2147483648 : Int) < d
        · have hres := bad (fun _ => by rw [List.all_eq_false]; exact ⟨d, hdm, by simp [fromB]; omega⟩)
          repeat refine pw_seq ?_
          refine pw_N [(9, 104), (20, 115), (24, 119)] (by rfl) (by rfl) fun K Gc Gh hK hGc hGh X hX0 hX => ?_
          simp -implicitDefEqProofs [hX0, hX, hal, e0, hbl, e2, g1, g2, undef]
          try clear hX0 hX X
          intros
          refine hK _ _ _ ?_
          clear hK hGc hGh
          clear K Gc Gh
          repeat refine pw_seq ?_
          refine pw_ct rfl ?_
          repeat refine pw_seq ?_
          refine pw_N [] (by rfl) (by rfl) fun K Gc Gh hK hGc hGh X hX0 hX => ?_
          simp -implicitDefEqProofs [hX0, hX]
          try clear hX0 hX X
          intros
          refine hK _ _ _ ?_
          clear hK hGc hGh
          clear K Gc Gh
          repeat refine pw_seq ?_
          exact pw_ret (ret_pure hd (by simp; rfl) (by simp only [hres, oneOf]))
        have hfr : fromB d 0 2147483648 = true := by simp [fromB]; omega
        by_cases g3 : a = b
        · subst g3
          have hd0 : row.getD a 0 = d := by rw [List.getD_eq_getElem?_getD, b1]; rfl
          by_cases g4 : d = 0
          · repeat refine pw_seq ?_
            refine pw_N [(9, 104), (20, 115), (24, 119)] (by rfl) (by rfl) fun K Gc Gh hK hGc hGh X hX0 hX => ?_
            simp -implicitDefEqProofs [hX0, hX, hal, e0, hbl, e2, g4]
            try clear hX0 hX X
            intros
            refine hK _ _ _ ?_
            clear hK hGc hGh
            clear K Gc Gh
            repeat refine pw_seq ?_
            refine pw_cf (by simp) ?_
            refine pw_skip ?_
            repeat refine pw_seq ?_
            refine pw_N [] (by rfl) (by rfl) fun K Gc Gh hK hGc hGh X hX0 hX => ?_
            simp -implicitDefEqProofs [hX0, hX]
            try clear hX0 hX X
            intros
            refine hK _ _ _ ?_
            clear hK hGc hGh
            clear K Gc Gh
            exact again_mk (a + 1) [] ⟨by omega, by rw [b3, List.all_append, hr1]; simp [hfr], fun _ => hd0.trans g4⟩ (by omega) (by simp [wrN a (by omega)]) rfl (by simp)
          · have hres := bad (fun q => absurd (hd0.symm.trans q.2) g4)
            repeat refine pw_seq ?_
            refine pw_N [(9, 104), (20, 115), (24, 119)] (by rfl) (by rfl) fun K Gc Gh hK hGc hGh X hX0 hX => ?_
            simp -implicitDefEqProofs [hX0, hX, hal, e0, hbl, e2, g1, g2, g4]
            try clear hX0 hX X
            intros
            refine hK _ _ _ ?_
            clear hK hGc hGh
            clear K Gc Gh
            repeat refine pw_seq ?_
            refine pw_ct (by simp) ?_
            repeat refine pw_seq ?_
            refine pw_N [] (by rfl) (by rfl) fun K Gc Gh hK hGc hGh X hX0 hX => ?_
            simp -implicitDefEqProofs [hX0, hX]
            try clear hX0 hX X
            intros
            refine hK _ _ _ ?_
            clear hK hGc hGh
            clear K Gc Gh
            repeat refine pw_seq ?_
            exact pw_ret (ret_pure hd (by simp; rfl) (by simp only [hres, oneOf]))
        · have g3' : ¬ ((a : Int) = (b : Int)) := by omega
          repeat refine pw_seq ?_
          refine pw_N [(9, 104), (20, 115), (24, 119)] (by rfl) (by rfl) fun K Gc Gh hK hGc hGh X hX0 hX => ?_
          simp -implicitDefEqProofs [hX0, hX, hal, e0, hbl, e2, g1, g2, g3', undef]
          try clear hX0 hX X
          intros
          refine hK _ _ _ ?_
          clear hK hGc hGh
          clear K Gc Gh
          repeat refine pw_seq ?_
          refine pw_cf (by simp) ?_
          refine pw_skip ?_
          repeat refine pw_seq ?_
          refine pw_N [] (by rfl) (by rfl) fun K Gc Gh hK hGc hGh X hX0 hX => ?_
          simp -implicitDefEqProofs [hX0, hX]
          try clear hX0 hX X
          intros
          refine hK _ _ _ ?_
          clear hK hGc hGh
          clear K Gc Gh
          exact again_mk (b + 1) [] ⟨by omega, by rw [b3, List.all_append, hr1]; simp [hfr], fun q => hr2 (by omega)⟩ (by omega) (by simp [wrN b (by omega)]) rfl (by simp)
      · simp at hc3
        obtain rfl : b = n + 1 := by omega
        rw [List.take_of_length_le (by omega)] at hr1
        have h0 := hr2 (by omega)
        refine pw_exit ?_
        repeat refine pw_seq ?_
        refine pw_N [] (by rfl) (by rfl) fun K Gc Gh hK hGc hGh X hX0 hX => ?_
        simp -implicitDefEqProofs [hX0, hX]
        try clear hX0 hX X
        intros
        refine hK _ _ _ ?_
        clear hK hGc hGh
        clear K Gc Gh
        exact again_mk (a + 1) [] ⟨by omega, by rw [hr, hr1, h0]; simp [h2]⟩ (by omega) (by simp [wrN a (by omega)]) rfl (by simp)
    · simp at hc2
      obtain rfl : a = n + 1 := by omega
      rw [List.drop_of_length_le (by omega)] at hr
      simp only [distR] at hr
      refine pw_exit ?_
      repeat refine pw_seq ?_
      refine pw_N [] (by rfl) (by rfl) fun K Gc Gh hK hGc hGh X hX0 hX => ?_
      simp -implicitDefEqProofs [hX0, hX]
      try clear hX0 hX X
      intros
      refine hK _ _ _ ?_
      clear hK hGc hGh
      clear K Gc Gh
      repeat refine pw_seq ?_
      exact pw_ret (ret_pure hd (by simp; rfl) (by simp [hr, oneOf]))

set_option maxRecDepth 20000 in
theorem costR_ok (x : Inst) (d : Day) (hd' : DayOk d) : Pure Tryz.prog 22 [.agg (instL x), .agg [L d]] (I (W (costZ x d))) := by
  have hdn := hd'.1
  refine pure_enter Tryz.func22 (by rfl) rfl Tryz.ntmps22 (congrArg Array.toList Tryz.results22) (by simp) fun S nx hd => ?_
  repeat refine pw_seq ?_
  refine pw_N [] (by rfl) (by rfl) fun K Gc Gh hK hGc hGh X hX0 hX => ?_
  simp -implicitDefEqProofs [hX0, hX]
  try clear hX0 hX X
  intro v0 v1
  refine hK _ _ _ ?_
  clear hK hGc hGh
  clear K Gc Gh
  repeat refine pw_seq ?_
  refine pw_N [] (by rfl) (by rfl) fun K Gc Gh hK hGc hGh X hX0 hX => ?_
  simp -implicitDefEqProofs [hX0, hX]
  try clear hX0 hX X
  intros
  refine hK _ _ _ ?_
  clear hK hGc hGh
  clear K Gc Gh
  repeat refine pw_seq ?_
  refine pw_N [] (by rfl) (by rfl) fun K Gc Gh hK hGc hGh X hX0 hX => ?_
  simp -implicitDefEqProofs [hX0, hX]
  try clear hX0 hX X
  intros
  refine hK _ _ _ ?_
  clear hK hGc hGh
  clear K Gc Gh
  repeat refine pw_seq ?_
  refine pw_block (pw_loopL (fun s : Nat => s ≤ d.length) (fun k => [(2, .ptr nx v0 0), (3, .ptr (nx + 1) v1 0), (5, I (W (costZ x (d.take k)))), (6, I k)]) (fun _ => [.cells v0 25 (instL x), .cells v1 45 [L d]]) (fun s => d.length - s) 0 [] (by simp) (by simp [costZ]) (by simp) ?_)
  rintro k hk
  repeat refine pw_seq ?_
  refine pw_N [] (by rfl) (by rfl) fun K Gc Gh hK hGc hGh X hX0 hX => ?_
  simp -implicitDefEqProofs [hX0, hX]
  try clear hX0 hX X
  intros
  refine hK _ _ _ ?_
  clear hK hGc hGh
  clear K Gc Gh
  repeat refine pw_seq ?_
  refine pw_cond rfl (fun hc => ?_) (fun hc => ?_)
  · simp at hc
    obtain ⟨t, tl, a1, a2, a3, e0⟩ := el1 rfl d k hc
    have htm := List.mem_of_getElem? a1
    have htl := hd'.2 t htm
    have hsm := hd'.3 t htm
    refine pw_skip (pw_seq (pw_block ?_))
    repeat refine pw_seq ?_
    refine pw_Y none (Row.pures [0, 1, 2, 3, 4, 5, 6, 7, 8, 9, 10] .done) mixed (by rfl) (by rfl) (by rfl) fun K Gp Gc Gh hK hGp hGc hGh X hX0 hX1 hX2 hX => ?_
    simp -implicitDefEqProofs [hX2, hc, e0]
    try clear hX0 hX1 hX2 hX X
    refine hGp _ _ _ _ _ _ _ _ (custR_ok t htl) ?_
    clear hGp hGc hGh
    clear Gp Gc Gh
    refine px_go fun Gp Gc Gh hGp hGc hGh X hX0 hX1 hX2 hX => ?_
    simp -implicitDefEqProofs [hX2]
    try clear hX0 hX1 hX2 hX X
    refine hGp _ _ _ _ _ _ _ _ (wayR_ok x (t.map (·.c)) (by simpa using htl) (by simpa using hsm)) ?_
    clear hGp hGc hGh
    clear Gp Gc Gh
    refine px_go fun Gp Gc Gh hGp hGc hGh X hX0 hX1 hX2 hX => ?_
    simp -implicitDefEqProofs [hX0, hX2]
    try clear hX0 hX1 hX2 hX X
    refine hK _ _ _ ?_
    clear hK hGp hGc hGh
    clear K Gp Gc Gh
    have hw : W (W (costZ x (d.take k)) + W (wayZ x (t.map (·.c)))) = W (costZ x (d.take (k + 1))) := by rw [a3, costZ_snoc, W_add, W_add']
    repeat refine pw_seq ?_
    refine pw_N [] (by rfl) (by rfl) fun K Gc Gh hK hGc hGh X hX0 hX => ?_
    simp -implicitDefEqProofs [hX0, hX]
    try clear hX0 hX X
    intros
    refine hK _ _ _ ?_
    clear hK hGc hGh
    clear K Gc Gh
    exact again_mk (k + 1) [] hc (by omega) (by simp [wrN k (by omega)]; exact hw) rfl (by simp)
  · simp at hc
    obtain rfl : k = d.length := by omega
    rw [List.take_length]
    refine pw_exit ?_
    repeat refine pw_seq ?_
    refine pw_N [] (by rfl) (by rfl) fun K Gc Gh hK hGc hGh X hX0 hX => ?_
    simp -implicitDefEqProofs [hX0, hX]
    try clear hX0 hX X
    intros
    refine hK _ _ _ ?_
    clear hK hGc hGh
    clear K Gc Gh
    repeat refine pw_seq ?_
    exact pw_ret (ret_pure hd (by simp; rfl) rfl)

end Go.Proofs.YtlkcdaeknioanaaGreat.Pv
