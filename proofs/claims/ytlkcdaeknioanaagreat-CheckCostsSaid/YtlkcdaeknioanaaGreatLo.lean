/- The document's ways to visit a customer, by what is so of them (tranterref10.Most, Way, Filled; tranterref11.Visits, Cost, Pattern, Any, All). -/
import Derived.Test.YtlkcdaeknioanaaGreatLn
import Derived.Test.YtlkcdaeknioanaaGreatLg
namespace Go.Proofs.YtlkcdaeknioanaaGreat.Pv
open Go

def Qs (q : List Int) : Prop := ∀ z ∈ q, 0 ≤ z ∧ z ≤ 2147483648
structure GoodV (n : Nat) (v : List Visit) : Prop where
  len : v.length ≤ 64
  ok : ∀ s ∈ v, (0 ≤ s.d ∧ s.d < n) ∧ 1 ≤ s.q ∧ s.q ≤ 2147483648
  nd : (v.map (·.d)).Nodup

set_option maxRecDepth 20000 in
theorem mostR_ok (c : Cust) (there cap : Int) (hs : 0 ≤ c.size ∧ c.size ≤ 2147483648) (ht : 0 ≤ there ∧ there ≤ 4611686018427387904) (hc : cap ≤ 2147483648) :
    RSpec Tryz.prog 109 [.agg (custL c), I there, I cap] (fun p => ∃ q, p = I q ∧ 0 ≤ q ∧ q ≤ 2147483648) := by
  have w1 : IntKind.i64.wrap (c.size - there) = c.size - there := wr _ (by omega) (by omega)
  refine rspec_enter Tryz.func109 (by rfl) rfl Tryz.ntmps109 (congrArg Array.toList Tryz.results109) (by simp) fun S nx hd => ?_
  repeat refine pw_seq ?_
  refine pw_N [] (by rfl) (by rfl) fun K Gc Gh hK hGc hGh X hX0 hX => ?_
  simp -implicitDefEqProofs [hX0, hX]
  try clear hX0 hX X
  intro v0
  refine hK _ _ _ ?_
  clear hK hGc hGh
  clear K Gc Gh
  repeat refine pw_seq ?_
  refine pw_N [] (by rfl) (by rfl) fun K Gc Gh hK hGc hGh X hX0 hX => ?_
  simp -implicitDefEqProofs [hX0, hX, w1]
  try clear hX0 hX X
  intros
  refine hK _ _ _ ?_
  clear hK hGc hGh
  clear K Gc Gh
  repeat refine pw_seq ?_
  refine pw_N [] (by rfl) (by rfl) fun K Gc Gh hK hGc hGh X hX0 hX => ?_
  simp -implicitDefEqProofs [hX0, hX]
  try clear hX0 hX X
  intros
  refine hK _ _ _ ?_
  clear hK hGc hGh
  clear K Gc Gh
  refine pw_joinK (nx := nx) (σ := Int) (fun r => 0 ≤ r ∧ r ≤ 2147483648) (fun r => [(2, I cap), (3, .ptr nx v0 0), (7, I r)]) (fun _ => S) (fun _ => [.cells v0 54 (custL c)]) ?_ ?_
  · by_cases h : c.size - there < 0
    · repeat refine pw_seq ?_
      refine pw_ct (by simp; omega) ?_
      repeat refine pw_seq ?_
      refine pw_N [] (by rfl) (by rfl) fun K Gc Gh hK hGc hGh X hX0 hX => ?_
      simp -implicitDefEqProofs [hX0, hX]
      try clear hX0 hX X
      intros
      refine hK _ _ _ ?_
      clear hK hGc hGh
      clear K Gc Gh
      exact at_mk 0 [] (by omega) (by simp) rfl (by simp)
    · repeat refine pw_seq ?_
      refine pw_cf (by simp; omega) ?_
      refine pw_skip ?_
      exact at_mk (c.size - there) [] (by omega) (by simp) rfl (by simp)
  intro r hr
  repeat refine pw_seq ?_
  refine pw_N [] (by rfl) (by rfl) fun K Gc Gh hK hGc hGh X hX0 hX => ?_
  simp -implicitDefEqProofs [hX0, hX]
  try clear hX0 hX X
  intros
  refine hK _ _ _ ?_
  clear hK hGc hGh
  clear K Gc Gh
  refine pw_joinK (nx := nx) (σ := Int) (fun k => 0 ≤ k ∧ k ≤ 2147483648) (fun k => [(2, I k), (3, .ptr nx v0 0), (7, I r)]) (fun _ => S) (fun _ => [.cells v0 54 (custL c)]) ?_ ?_
  · by_cases h : cap < 0
    · repeat refine pw_seq ?_
      refine pw_ct (by simp [h]) ?_
      repeat refine pw_seq ?_
      refine pw_N [] (by rfl) (by rfl) fun K Gc Gh hK hGc hGh X hX0 hX => ?_
      simp -implicitDefEqProofs [hX0, hX]
      try clear hX0 hX X
      intros
      refine hK _ _ _ ?_
      clear hK hGc hGh
      clear K Gc Gh
      exact at_mk 0 [] (by omega) (by simp) rfl (by simp)
    · repeat refine pw_seq ?_
      refine pw_cf (by simp; omega) ?_
      refine pw_skip ?_
      exact at_mk cap [] (by omega) (by simp) rfl (by simp)
  intro k hk
  repeat refine pw_seq ?_
  refine pw_N [] (by rfl) (by rfl) fun K Gc Gh hK hGc hGh X hX0 hX => ?_
  simp -implicitDefEqProofs [hX0, hX]
  try clear hX0 hX X
  intros
  refine hK _ _ _ ?_
  clear hK hGc hGh
  clear K Gc Gh
  repeat refine pw_seq ?_
  refine pw_cond rfl (fun h1 => ?_) (fun h1 => ?_)
  · repeat refine pw_seq ?_
    refine pw_N [] (by rfl) (by rfl) fun K Gc Gh hK hGc hGh X hX0 hX => ?_
    simp -implicitDefEqProofs [hX0, hX]
    try clear hX0 hX X
    intros
    refine hK _ _ _ ?_
    clear hK hGc hGh
    clear K Gc Gh
    repeat refine pw_seq ?_
    exact pw_ret ⟨_, S, (by simp; rfl), ⟨⟨r, by simp [oneOf], hr⟩, rfl⟩, ext_kill0 hd⟩
  · refine pw_skip ?_
    repeat refine pw_seq ?_
    refine pw_N [] (by rfl) (by rfl) fun K Gc Gh hK hGc hGh X hX0 hX => ?_
    simp -implicitDefEqProofs [hX0, hX]
    try clear hX0 hX X
    intros
    refine hK _ _ _ ?_
    clear hK hGc hGh
    clear K Gc Gh
    repeat refine pw_seq ?_
    refine pw_cond rfl (fun h2 => ?_) (fun h2 => ?_)
    · repeat refine pw_seq ?_
      refine pw_N [] (by rfl) (by rfl) fun K Gc Gh hK hGc hGh X hX0 hX => ?_
      simp -implicitDefEqProofs [hX0, hX]
      try clear hX0 hX X
      intros
      refine hK _ _ _ ?_
      clear hK hGc hGh
      clear K Gc Gh
      repeat refine pw_seq ?_
      exact pw_ret ⟨_, S, (by simp; rfl), ⟨⟨0, by simp [oneOf], by omega⟩, rfl⟩, ext_kill0 hd⟩
    · refine pw_skip ?_
      repeat refine pw_seq ?_
      refine pw_N [] (by rfl) (by rfl) fun K Gc Gh hK hGc hGh X hX0 hX => ?_
      simp -implicitDefEqProofs [hX0, hX]
      try clear hX0 hX X
      intros
      refine hK _ _ _ ?_
      clear hK hGc hGh
      clear K Gc Gh
      repeat refine pw_seq ?_
      exact pw_ret ⟨_, S, (by simp; rfl), ⟨⟨k, by simp [oneOf], hk⟩, rfl⟩, ext_kill0 hd⟩

set_option maxRecDepth 20000 in
theorem wayR2_ok (c : Cust) (n : Nat) (cap : Int) (late : Bool) (hc : CustFits c) (hn : n ≤ 64) (hcap : cap ≤ 2147483648) :
    RSpec Tryz.prog 78 [.agg (custL c), I n, I cap, B late] (fun p => ∃ q b, p = .tup [L q, B b] ∧ q.length = n ∧ Qs q) := by
  have hr := hc.rate
  have hst := hc.start
  refine rspec_enter Tryz.func78 (by rfl) rfl Tryz.ntmps78 (congrArg Array.toList Tryz.results78) (by simp) fun S nx hd => ?_
  repeat refine pw_seq ?_
  refine pw_N [] (by rfl) (by rfl) fun K Gc Gh hK hGc hGh X hX0 hX => ?_
  simp -implicitDefEqProofs [hX0, hX]
  try clear hX0 hX X
  intro v0
  refine hK _ _ _ ?_
  clear hK hGc hGh
  clear K Gc Gh
  repeat refine pw_seq ?_
  refine pw_N [] (by rfl) (by rfl) fun K Gc Gh hK hGc hGh X hX0 hX => ?_
  simp -implicitDefEqProofs [hX0, hX]
  try clear hX0 hX X
  intros
  refine hK _ _ _ ?_
  clear hK hGc hGh
  clear K Gc Gh
  refine pw_seq (pw_nilX 10 3 1 rfl fun v1 => ?_)
  repeat refine pw_seq ?_
  refine pw_N [] (by rfl) (by rfl) fun K Gc Gh hK hGc hGh X hX0 hX => ?_
  simp -implicitDefEqProofs [hX0, hX]
  try clear hX0 hX X
  intros
  refine hK _ _ _ ?_
  clear hK hGc hGh
  clear K Gc Gh
  repeat refine pw_seq ?_
  refine pw_N [] (by rfl) (by rfl) fun K Gc Gh hK hGc hGh X hX0 hX => ?_
  simp -implicitDefEqProofs [hX0, hX]
  try clear hX0 hX X
  intros
  refine hK _ _ _ ?_
  clear hK hGc hGh
  clear K Gc Gh
  repeat refine pw_seq ?_
  refine pw_block (pw_loopL (fun s : Nat × Int × List Int × Nat => s.1 ≤ n ∧ (-4294967296 * (s.1 + 1 : Int) ≤ s.2.1 ∧ s.2.1 ≤ 4294967296 * (s.1 + 1 : Int)) ∧ s.2.2.1.length = s.1 ∧ Qs s.2.2.1) (fun (k, there, out, v1) => [(1, I n), (2, I cap), (3, B late), (4, .ptr nx v0 0), (10, .sl (nx + 1) v1 1 0 out.length), (11, I there), (12, I k)]) (fun (k, there, out, v1) => [.cells v0 54 (custL c), .cells v1 3 (out.flatMap Enc.enc)]) (fun s => n - s.1) (0, c.start, [], v1) [] ⟨by simp, by dsimp only; omega, rfl, by intro z hz; cases hz⟩ (by simp) (by simp) ?_)
  rintro ⟨k, there, out, v1⟩ ⟨hk, hth, hol, hq⟩
  simp only at hk hth hol hq ⊢
  repeat refine pw_seq ?_
  refine pw_N [] (by rfl) (by rfl) fun K Gc Gh hK hGc hGh X hX0 hX => ?_
  simp -implicitDefEqProofs [hX0, hX]
  try clear hX0 hX X
  intros
  refine hK _ _ _ ?_
  clear hK hGc hGh
  clear K Gc Gh
  repeat refine pw_seq ?_
  refine pw_cond rfl (fun hc1 => ?_) (fun hc1 => ?_)
  · simp at hc1
    refine pw_skip (pw_seq (pw_block ?_))
    repeat refine pw_seq ?_
    refine pw_N [] (by rfl) (by rfl) fun K Gc Gh hK hGc hGh X hX0 hX => ?_
    simp -implicitDefEqProofs [hX0, hX]
    try clear hX0 hX X
    intros
    refine hK _ _ _ ?_
    clear hK hGc hGh
    clear K Gc Gh
    repeat refine pw_seq ?_
    refine pw_joinK (nx := nx) (σ := Bool × Nat) (fun _ => True) (fun (t, v1) => [(1, I n), (2, I cap), (3, B late), (4, .ptr nx v0 0), (10, .sl (nx + 1) v1 1 0 out.length), (11, I there), (12, I k), (13, I 0), (29, B t)]) (fun _ => S) (fun (t, v1) => [.cells v0 54 (custL c), .cells v1 3 (out.flatMap Enc.enc)]) ?_ ?_
    · cases late with
      | true =>
        by_cases h : there < c.rate
        · repeat refine pw_seq ?_
          refine pw_N [(2, 24)] (by rfl) (by rfl) fun K Gc Gh hK hGc hGh X hX0 hX => ?_
          simp -implicitDefEqProofs [hX0, hX, h]
          try clear hX0 hX X
          intros
          refine hK _ _ _ ?_
          clear hK hGc hGh
          clear K Gc Gh
          exact at_mk (true, v1) [] trivial (by simp) rfl (by simp)
        · repeat refine pw_seq ?_
          refine pw_N [(2, 24)] (by rfl) (by rfl) fun K Gc Gh hK hGc hGh X hX0 hX => ?_
          simp -implicitDefEqProofs [hX0, hX, h]
          try clear hX0 hX X
          intros
          refine hK _ _ _ ?_
          clear hK hGc hGh
          clear K Gc Gh
          exact at_mk (false, v1) [] trivial (by simp) rfl (by simp)
      | false =>
        repeat refine pw_seq ?_
        refine pw_N [(2, 24)] (by rfl) (by rfl) fun K Gc Gh hK hGc hGh X hX0 hX => ?_
        simp -implicitDefEqProofs [hX0, hX, undef]
        try clear hX0 hX X
        intros
        refine hK _ _ _ ?_
        clear hK hGc hGh
        clear K Gc Gh
        exact at_mk (true, v1) [] trivial (by simp) rfl (by simp)
    rintro ⟨t, v1⟩ -
    simp only
    repeat refine pw_seq ?_
    refine pw_joinK (nx := nx) (σ := Int × Nat) (fun z => 0 ≤ z.1 ∧ z.1 ≤ 2147483648) (fun (z, v1) => [(1, I n), (2, I cap), (3, B late), (4, .ptr nx v0 0), (10, .sl (nx + 1) v1 1 0 out.length), (11, I there), (12, I k), (13, I z)]) (fun _ => S) (fun (z, v1) => [.cells v0 54 (custL c), .cells v1 3 (out.flatMap Enc.enc)]) ?_ ?_
    · cases t with
      | true =>
        repeat refine pw_seq ?_
        refine pw_ct rfl ?_
        repeat refine pw_seq ?_
        refine pw_N [] (by rfl) (by rfl) fun K Gc Gh hK hGc hGh X hX0 hX => ?_
        simp -implicitDefEqProofs [hX0, hX]
        try clear hX0 hX X
        intros
        refine hK _ _ _ ?_
        clear hK hGc hGh
        clear K Gc Gh
        repeat refine pw_seq ?_
        refine pw_N [] (by rfl) (by rfl) fun K Gc Gh hK hGc hGh X hX0 hX => ?_
        simp -implicitDefEqProofs [hX0, hX]
        try clear hX0 hX X
        intros
        refine hK _ _ _ ?_
        clear hK hGc hGh
        clear K Gc Gh
        by_cases h0 : there < 0
        · repeat refine pw_seq ?_
          refine pw_ct (by simp [h0]) ?_
          repeat refine pw_seq ?_
          refine pw_N [] (by rfl) (by rfl) fun K Gc Gh hK hGc hGh X hX0 hX => ?_
          simp -implicitDefEqProofs [hX0, hX]
          try clear hX0 hX X
          intros
          refine hK _ _ _ ?_
          clear hK hGc hGh
          clear K Gc Gh
          repeat refine pw_seq ?_
          refine pw_N [] (by rfl) (by rfl) fun K Gc Gh hK hGc hGh X hX0 hX => ?_
          simp -implicitDefEqProofs [hX]
          try clear hX0 hX X
          refine hGc _ _ _ _ _ _ _ fun hsuf => ((mostR_ok c 0 cap hc.size (by omega) hcap _).mono ?_).v
          rintro _ _ ⟨⟨q, rfl, h1, h2⟩, rfl⟩
          refine ⟨_, _, rfl, ?_⟩
          clear hGc hGh
          clear Gc Gh
          refine xs_go hsuf (D := []) (by rfl) fun Gc Gh hGc hGh X hX0 hX => ?_
          simp -implicitDefEqProofs [hX0, hX]
          try clear hX0 hX X
          intros
          refine hK _ _ _ ?_
          clear hK hGc hGh
          clear K Gc Gh
          exact at_mk (q, v1) [] ⟨h1, h2⟩ (by simp) rfl (by simp)
        · repeat refine pw_seq ?_
          refine pw_cf (by simp; omega) ?_
          refine pw_skip ?_
          repeat refine pw_seq ?_
          refine pw_N [] (by rfl) (by rfl) fun K Gc Gh hK hGc hGh X hX0 hX => ?_
          simp -implicitDefEqProofs [hX]
          try clear hX0 hX X
          refine hGc _ _ _ _ _ _ _ fun hsuf => ((mostR_ok c there cap hc.size (by omega) hcap _).mono ?_).v
          rintro _ _ ⟨⟨q, rfl, h1, h2⟩, rfl⟩
          refine ⟨_, _, rfl, ?_⟩
          clear hGc hGh
          clear Gc Gh
          refine xs_go hsuf (D := []) (by rfl) fun Gc Gh hGc hGh X hX0 hX => ?_
          simp -implicitDefEqProofs [hX0, hX]
          try clear hX0 hX X
          intros
          refine hK _ _ _ ?_
          clear hK hGc hGh
          clear K Gc Gh
          exact at_mk (q, v1) [] ⟨h1, h2⟩ (by simp) rfl (by simp)
      | false =>
        repeat refine pw_seq ?_
        refine pw_cf rfl ?_
        refine pw_skip ?_
        exact at_mk (0, v1) [] (by simp) (by simp) rfl (by simp)
    · rintro ⟨z, v1⟩ hz
      simp only at hz ⊢
      have w1 : IntKind.i64.wrap (there + z) = there + z := wr _ (by omega) (by omega)
      have w2 : IntKind.i64.wrap (there + z - c.rate) = there + z - c.rate := wr _ (by omega) (by omega)
      repeat refine pw_seq ?_
      refine pw_N [] (by rfl) (by rfl) fun K Gc Gh hK hGc hGh X hX0 hX => ?_
      simp -implicitDefEqProofs [hX0, hX]
      try clear hX0 hX X
      refine ⟨by omega, ?_⟩
      intros
      refine hK _ _ _ ?_
      clear hK hGc hGh
      clear K Gc Gh
      repeat refine pw_seq ?_
      refine pw_N [] (by rfl) (by rfl) fun K Gc Gh hK hGc hGh X hX0 hX => ?_
      simp -implicitDefEqProofs [hX0, hX, w1, w2]
      try clear hX0 hX X
      intros
      refine hK _ _ _ ?_
      clear hK hGc hGh
      clear K Gc Gh
      repeat refine pw_seq ?_
      refine pw_N [] (by rfl) (by rfl) fun K Gc Gh hK hGc hGh X hX0 hX => ?_
      simp -implicitDefEqProofs [hX0, hX]
      try clear hX0 hX X
      intros
      refine hK _ _ _ ?_
      clear hK hGc hGh
      clear K Gc Gh
      exact again_mk (k + 1, there + z - c.rate, out ++ [z], v1 + 1) [] ⟨by omega, by dsimp only; omega, by simp [hol], fun y hy => by rcases List.mem_append.1 hy with h | h; exact hq y h; rw [List.mem_singleton.1 h]; exact hz⟩ (by simp; omega) (by simp [wrN k (by omega)]) rfl (by simp)
  · simp at hc1
    obtain rfl : k = n := by omega
    refine pw_exit ?_
    refine pw_frz 1 rfl ?_
    repeat refine pw_seq ?_
    refine pw_N [] (by rfl) (by rfl) fun K Gc Gh hK hGc hGh X hX0 hX => ?_
    simp -implicitDefEqProofs [hX]
    try clear hX0 hX X
    refine hGc _ _ _ _ _ _ _ fun hsuf => ((holdsR_ok c out hc (by omega) _).mono ?_).v
    rintro _ _ ⟨rfl, rfl⟩
    refine ⟨_, _, rfl, ?_⟩
    clear hGc hGh
    clear Gc Gh
    refine xs_go hsuf (D := []) (by rfl) fun Gc Gh hGc hGh X hX0 hX => ?_
    simp -implicitDefEqProofs [hX0, hX]
    try clear hX0 hX X
    intros
    refine hK _ _ _ ?_
    clear hK hGc hGh
    clear K Gc Gh
    repeat refine pw_seq ?_
    exact pw_ret ⟨_, S, (by simp; rfl), ⟨⟨out, _, by simp [oneOf]; rfl, hol, hq⟩, rfl⟩, ext_kill0 hd⟩

set_option maxRecDepth 20000 in
theorem filledR_ok (c : Cust) (n : Nat) (cap : Int) (set : Nat) (hc : CustFits c) (hn : n ≤ 64) (hcap : cap ≤ 2147483648) (hset : set < 2 ^ 64) :
    RSpec Tryz.prog 82 [.agg (custL c), I n, I cap, U set] (fun p => ∃ q b, p = .tup [L q, B b] ∧ q.length ≤ n ∧ Qs q) := by
  have hr := hc.rate
  have hst := hc.start
  have hsz := hc.size
  refine rspec_enter Tryz.func82 (by rfl) rfl Tryz.ntmps82 (congrArg Array.toList Tryz.results82) (by simp) fun S nx hd => ?_
  repeat refine pw_seq ?_
  refine pw_N [] (by rfl) (by rfl) fun K Gc Gh hK hGc hGh X hX0 hX => ?_
  simp -implicitDefEqProofs [hX0, hX]
  try clear hX0 hX X
  intro v0
  refine hK _ _ _ ?_
  clear hK hGc hGh
  clear K Gc Gh
  repeat refine pw_seq ?_
  refine pw_N [] (by rfl) (by rfl) fun K Gc Gh hK hGc hGh X hX0 hX => ?_
  simp -implicitDefEqProofs [hX0, hX]
  try clear hX0 hX X
  intros
  refine hK _ _ _ ?_
  clear hK hGc hGh
  clear K Gc Gh
  refine pw_seq (pw_nilX 10 3 1 rfl fun v1 => ?_)
  repeat refine pw_seq ?_
  refine pw_N [] (by rfl) (by rfl) fun K Gc Gh hK hGc hGh X hX0 hX => ?_
  simp -implicitDefEqProofs [hX0, hX]
  try clear hX0 hX X
  intros
  refine hK _ _ _ ?_
  clear hK hGc hGh
  clear K Gc Gh
  repeat refine pw_seq ?_
  refine pw_N [] (by rfl) (by rfl) fun K Gc Gh hK hGc hGh X hX0 hX => ?_
  simp -implicitDefEqProofs [hX0, hX]
  try clear hX0 hX X
  intros
  refine hK _ _ _ ?_
  clear hK hGc hGh
  clear K Gc Gh
  repeat refine pw_seq ?_
  refine pw_block (pw_loopL (fun s : Nat × Int × List Int × Nat => s.1 ≤ n ∧ (-4294967296 * (s.1 + 1 : Int) ≤ s.2.1 ∧ s.2.1 ≤ 4294967296 * (s.1 + 1 : Int)) ∧ s.2.2.1.length = s.1 ∧ Qs s.2.2.1) (fun (k, there, out, v1) => [(1, I n), (2, I cap), (3, U set), (4, .ptr nx v0 0), (10, .sl (nx + 1) v1 1 0 out.length), (11, I there), (12, I k)]) (fun (k, there, out, v1) => [.cells v0 54 (custL c), .cells v1 3 (out.flatMap Enc.enc)]) (fun s => n - s.1) (0, c.start, [], v1) [] ⟨by simp, by dsimp only; omega, rfl, by intro z hz; cases hz⟩ (by simp) (by simp) ?_)
  rintro ⟨k, there, out, v1⟩ ⟨hk, hth, hol, hq⟩
  simp only at hk hth hol hq ⊢
  repeat refine pw_seq ?_
  refine pw_N [] (by rfl) (by rfl) fun K Gc Gh hK hGc hGh X hX0 hX => ?_
  simp -implicitDefEqProofs [hX0, hX]
  try clear hX0 hX X
  intros
  refine hK _ _ _ ?_
  clear hK hGc hGh
  clear K Gc Gh
  repeat refine pw_seq ?_
  refine pw_cond rfl (fun hc1 => ?_) (fun hc1 => ?_)
  · simp at hc1
    refine pw_skip (pw_seq (pw_block ?_))
    repeat refine pw_seq ?_
    refine pw_N [] (by rfl) (by rfl) fun K Gc Gh hK hGc hGh X hX0 hX => ?_
    simp -implicitDefEqProofs [hX0, hX]
    try clear hX0 hX X
    intros
    refine hK _ _ _ ?_
    clear hK hGc hGh
    clear K Gc Gh
    repeat refine pw_seq ?_
    repeat refine pw_seq ?_
    refine pw_N [] (by rfl) (by rfl) fun K Gc Gh hK hGc hGh X hX0 hX => ?_
    simp -implicitDefEqProofs [hX]
    try clear hX0 hX X
    refine hGc _ _ _ _ _ _ _ fun hsuf => ((has_ok set k hset (by omega) (by omega) _).mono ?_).v
    rintro _ _ ⟨rfl, rfl⟩
    refine ⟨_, _, rfl, ?_⟩
    clear hGc hGh
    clear Gc Gh
    refine xs_go hsuf (D := []) (by rfl) fun Gc Gh hGc hGh X hX0 hX => ?_
    simp -implicitDefEqProofs [hX0]
    try clear hX0 hX X
    intros
    refine hK _ _ _ ?_
    clear hK hGc hGh
    clear K Gc Gh
    repeat refine pw_seq ?_
    refine pw_joinK (nx := nx) (σ := Int × Nat) (fun z => 0 ≤ z.1 ∧ z.1 ≤ 2147483648) (fun (z, v1) => [(1, I n), (2, I cap), (3, U set), (4, .ptr nx v0 0), (10, .sl (nx + 1) v1 1 0 out.length), (11, I there), (12, I k), (13, I z)]) (fun _ => S) (fun (z, v1) => [.cells v0 54 (custL c), .cells v1 3 (out.flatMap Enc.enc)]) ?_ ?_
    · repeat refine pw_seq ?_
      refine pw_cond rfl (fun hb => ?_) (fun hb => ?_)
      · have w1 : IntKind.i64.wrap (c.size - there) = c.size - there := wr _ (by omega) (by omega)
        repeat refine pw_seq ?_
        refine pw_N [] (by rfl) (by rfl) fun K Gc Gh hK hGc hGh X hX0 hX => ?_
        simp -implicitDefEqProofs [hX0, hX, w1]
        try clear hX0 hX X
        intros
        refine hK _ _ _ ?_
        clear hK hGc hGh
        clear K Gc Gh
        by_cases h1 : c.size - there < 1
        · repeat refine pw_seq ?_
          refine pw_N [(2, 30)] (by rfl) (by rfl) fun K Gc Gh hK hGc hGh X hX0 hX => ?_
          simp -implicitDefEqProofs [hX0, hX, h1, undef]
          try clear hX0 hX X
          intros
          refine hK _ _ _ ?_
          clear hK hGc hGh
          clear K Gc Gh
          repeat refine pw_seq ?_
          refine pw_ct rfl ?_
          repeat refine pw_seq ?_
          refine pw_N [] (by rfl) (by rfl) fun K Gc Gh hK hGc hGh X hX0 hX => ?_
          simp -implicitDefEqProofs [hX0, hX]
          try clear hX0 hX X
          intros
          refine hK _ _ _ ?_
          clear hK hGc hGh
          clear K Gc Gh
          refine pw_nil_lst 8 rfl ?_
          repeat refine pw_seq ?_
          exact pw_ret ⟨_, S, (by simp; rfl), ⟨⟨[], false, by simp [oneOf], by simp, by intro z hz; cases hz⟩, rfl⟩, ext_kill0 hd⟩
        by_cases h2 : cap < c.size - there
        · repeat refine pw_seq ?_
          refine pw_N [(2, 30)] (by rfl) (by rfl) fun K Gc Gh hK hGc hGh X hX0 hX => ?_
          simp -implicitDefEqProofs [hX0, hX, h1, h2]
          try clear hX0 hX X
          intros
          refine hK _ _ _ ?_
          clear hK hGc hGh
          clear K Gc Gh
          repeat refine pw_seq ?_
          refine pw_ct rfl ?_
          repeat refine pw_seq ?_
          refine pw_N [] (by rfl) (by rfl) fun K Gc Gh hK hGc hGh X hX0 hX => ?_
          simp -implicitDefEqProofs [hX0, hX]
          try clear hX0 hX X
          intros
          refine hK _ _ _ ?_
          clear hK hGc hGh
          clear K Gc Gh
          refine pw_nil_lst 8 rfl ?_
          repeat refine pw_seq ?_
          exact pw_ret ⟨_, S, (by simp; rfl), ⟨⟨[], false, by simp [oneOf], by simp, by intro z hz; cases hz⟩, rfl⟩, ext_kill0 hd⟩
        repeat refine pw_seq ?_
        refine pw_N [(2, 30)] (by rfl) (by rfl) fun K Gc Gh hK hGc hGh X hX0 hX => ?_
        simp -implicitDefEqProofs [hX0, hX, h1, h2]
        try clear hX0 hX X
        intros
        refine hK _ _ _ ?_
        clear hK hGc hGh
        clear K Gc Gh
        repeat refine pw_seq ?_
        refine pw_cf rfl ?_
        refine pw_skip ?_
        exact at_mk (c.size - there, v1) [] (by dsimp only; omega) (by simp) rfl (by simp)
      · refine pw_skip ?_
        exact at_mk (0, v1) [] (by simp) (by simp) rfl (by simp)
    · rintro ⟨z, v1⟩ hz
      simp only at hz ⊢
      have w1 : IntKind.i64.wrap (there + z) = there + z := wr _ (by omega) (by omega)
      have w2 : IntKind.i64.wrap (there + z - c.rate) = there + z - c.rate := wr _ (by omega) (by omega)
      repeat refine pw_seq ?_
      refine pw_N [] (by rfl) (by rfl) fun K Gc Gh hK hGc hGh X hX0 hX => ?_
      simp -implicitDefEqProofs [hX0, hX]
      try clear hX0 hX X
      refine ⟨by omega, ?_⟩
      intros
      refine hK _ _ _ ?_
      clear hK hGc hGh
      clear K Gc Gh
      repeat refine pw_seq ?_
      refine pw_N [] (by rfl) (by rfl) fun K Gc Gh hK hGc hGh X hX0 hX => ?_
      simp -implicitDefEqProofs [hX0, hX, w1, w2]
      try clear hX0 hX X
      intros
      refine hK _ _ _ ?_
      clear hK hGc hGh
      clear K Gc Gh
      repeat refine pw_seq ?_
      refine pw_N [] (by rfl) (by rfl) fun K Gc Gh hK hGc hGh X hX0 hX => ?_
      simp -implicitDefEqProofs [hX0, hX]
      try clear hX0 hX X
      intros
      refine hK _ _ _ ?_
      clear hK hGc hGh
      clear K Gc Gh
      exact again_mk (k + 1, there + z - c.rate, out ++ [z], v1 + 1) [] ⟨by omega, by dsimp only; omega, by simp [hol], fun y hy => by rcases List.mem_append.1 hy with h | h; exact hq y h; rw [List.mem_singleton.1 h]; exact hz⟩ (by simp; omega) (by simp [wrN k (by omega)]) rfl (by simp)
  · simp at hc1
    obtain rfl : k = n := by omega
    refine pw_exit ?_
    refine pw_frz 1 rfl ?_
    repeat refine pw_seq ?_
    refine pw_N [] (by rfl) (by rfl) fun K Gc Gh hK hGc hGh X hX0 hX => ?_
    simp -implicitDefEqProofs [hX]
    try clear hX0 hX X
    refine hGc _ _ _ _ _ _ _ fun hsuf => ((holdsR_ok c out hc (by omega) _).mono ?_).v
    rintro _ _ ⟨rfl, rfl⟩
    refine ⟨_, _, rfl, ?_⟩
    clear hGc hGh
    clear Gc Gh
    refine xs_go hsuf (D := []) (by rfl) fun Gc Gh hGc hGh X hX0 hX => ?_
    simp -implicitDefEqProofs [hX0, hX]
    try clear hX0 hX X
    intros
    refine hK _ _ _ ?_
    clear hK hGc hGh
    clear K Gc Gh
    repeat refine pw_seq ?_
    exact pw_ret ⟨_, S, (by simp; rfl), ⟨⟨out, _, by simp [oneOf]; rfl, by omega, hq⟩, rfl⟩, ext_kill0 hd⟩

/-- The visits of bringings. -/
def visQ : Nat → List Int → List Visit
  | _, [] => []
  | i, z :: l => if 0 < z then ⟨i, z⟩ :: visQ (i + 1) l else visQ (i + 1) l
theorem visQ_len : ∀ (l : List Int) (i : Nat), (visQ i l).length ≤ l.length
  | [], _ => by simp [visQ]
  | z :: l, i => by
    have := visQ_len l (i + 1)
    simp only [visQ]; split <;> simp <;> omega
theorem visQ_ok : ∀ (l : List Int) (i : Nat), Qs l → ∀ s ∈ visQ i l, ((i : Int) ≤ s.d ∧ s.d < (i + l.length : Nat)) ∧ 1 ≤ s.q ∧ s.q ≤ 2147483648
  | [], _, _ => by intro s hs; cases hs
  | z :: l, i, h => by
    have ih := visQ_ok l (i + 1) fun x hx => h x (by simp [hx])
    have hz := h z (by simp)
    intro s hs
    simp only [visQ] at hs
    split at hs
    · rcases List.mem_cons.1 hs with rfl | hs
      · simp only [List.length_cons]; omega
      · have := ih s hs; simp only [List.length_cons]; omega
    · have := ih s hs; simp only [List.length_cons]; omega
theorem visQ_ge : ∀ (l : List Int) (i : Nat), ∀ s ∈ visQ i l, (i : Int) ≤ s.d
  | [], _ => by intro s hs; cases hs
  | z :: l, i => by
    have ih := visQ_ge l (i + 1)
    intro s hs
    simp only [visQ] at hs
    split at hs
    · rcases List.mem_cons.1 hs with rfl | hs
      · exact Int.le_refl _
      · have := ih s hs; omega
    · have := ih s hs; omega
theorem visQ_nd : ∀ (l : List Int) (i : Nat), ((visQ i l).map (·.d)).Nodup
  | [], _ => by simp [visQ]
  | z :: l, i => by
    have ih := visQ_nd l (i + 1)
    simp only [visQ]
    split
    · rw [List.map_cons, List.nodup_cons]
      refine ⟨fun h => ?_, ih⟩
      obtain ⟨s, hs, e⟩ := List.mem_map.1 h
      have := visQ_ge l (i + 1) s hs
      simp only at e; omega
    · exact ih
theorem daysTo_nd (n a k : Nat) : (daysTo n a k).Nodup := by
  unfold daysTo
  refine List.Pairwise.map _ (fun x y (h : x ≠ y) => ?_) (List.Pairwise.filter _ List.nodup_range)
  intro e; apply h; omega
theorem visQ_good {q : List Int} {n : Nat} (hq : Qs q) (hl : q.length ≤ n) (hn : n ≤ 64) : GoodV n (visQ 0 q) := by
  refine ⟨Nat.le_trans (visQ_len q 0) (by omega), fun s hs => ?_, visQ_nd q 0⟩
  have := visQ_ok q 0 hq s hs
  omega

set_option maxRecDepth 20000 in
theorem visitsQ_ok (q : List Int) (hq : q.length ≤ 1048576) : Pure Tryz.prog 79 [L q] (L (visQ 0 q)) := by
  refine pure_enter Tryz.func79 (by rfl) rfl Tryz.ntmps79 (congrArg Array.toList Tryz.results79) (by simp) fun S nx hd => ?_
  repeat refine pw_seq ?_
  refine pw_N [] (by rfl) (by rfl) fun K Gc Gh hK hGc hGh X hX0 hX => ?_
  simp -implicitDefEqProofs [hX0, hX]
  try clear hX0 hX X
  intros
  refine hK _ _ _ ?_
  clear hK hGc hGh
  clear K Gc Gh
  repeat refine pw_seq ?_
  refine pw_N [] (by rfl) (by rfl) fun K Gc Gh hK hGc hGh X hX0 hX => ?_
  simp -implicitDefEqProofs [hX0, hX]
  try clear hX0 hX X
  intros
  refine hK _ _ _ ?_
  clear hK hGc hGh
  clear K Gc Gh
  refine pw_seq (pw_nilX 3 69 2 rfl fun v1 => ?_)
  repeat refine pw_seq ?_
  refine pw_N [] (by rfl) (by rfl) fun K Gc Gh hK hGc hGh X hX0 hX => ?_
  simp -implicitDefEqProofs [hX0, hX]
  try clear hX0 hX X
  intros
  refine hK _ _ _ ?_
  clear hK hGc hGh
  clear K Gc Gh
  repeat refine pw_seq ?_
  refine pw_block (pw_loopL (fun s : Nat × List Visit × Nat => s.1 ≤ q.length ∧ s.2.1.length ≤ s.1 ∧ visQ 0 q = s.2.1 ++ visQ s.1 (q.drop s.1)) (fun (k, out, v1) => [(0, L q), (3, .sl nx v1 2 0 out.length), (4, I k)]) (fun (k, out, v1) => [.cells v1 69 (out.flatMap Enc.enc)]) (fun s => q.length - s.1) (0, [], v1) [] (by simp) (by simp) (by simp) ?_)
  rintro ⟨k, out, v1⟩ ⟨hk, hol, ho⟩
  simp only at hk hol ho ⊢
  repeat refine pw_seq ?_
  refine pw_N [] (by rfl) (by rfl) fun K Gc Gh hK hGc hGh X hX0 hX => ?_
  simp -implicitDefEqProofs [hX0, hX]
  try clear hX0 hX X
  intros
  refine hK _ _ _ ?_
  clear hK hGc hGh
  clear K Gc Gh
  repeat refine pw_seq ?_
  refine pw_cond rfl (fun hc => ?_) (fun hc => ?_)
  · simp at hc
    obtain ⟨z, tl, a1, a2, a3, e0⟩ := el1 rfl q k hc
    rw [a2] at ho
    simp only [visQ] at ho
    refine pw_skip (pw_seq (pw_block ?_))
    by_cases h : 0 < z
    · rw [if_pos h] at ho
      repeat refine pw_seq ?_
      refine pw_N [] (by rfl) (by rfl) fun K Gc Gh hK hGc hGh X hX0 hX => ?_
      simp -implicitDefEqProofs [hX0, hX, e0, hc]
      try clear hX0 hX X
      intros
      refine hK _ _ _ ?_
      clear hK hGc hGh
      clear K Gc Gh
      repeat refine pw_seq ?_
      refine pw_ct (by simp [h]) ?_
      repeat refine pw_seq ?_
      refine pw_N [] (by rfl) (by rfl) fun K Gc Gh hK hGc hGh X hX0 hX => ?_
      simp -implicitDefEqProofs [hX0, hX, e0, hc]
      try clear hX0 hX X
      refine ⟨by omega, ?_⟩
      intros
      refine hK _ _ _ ?_
      clear hK hGc hGh
      clear K Gc Gh
      repeat refine pw_seq ?_
      refine pw_N [] (by rfl) (by rfl) fun K Gc Gh hK hGc hGh X hX0 hX => ?_
      simp -implicitDefEqProofs [hX0, hX]
      try clear hX0 hX X
      intros
      refine hK _ _ _ ?_
      clear hK hGc hGh
      clear K Gc Gh
      exact again_mk (k + 1, out ++ [⟨k, z⟩], v1 + 1) [] ⟨hc, by simp; omega, by rw [ho]; simp⟩ (by simp; omega) (by simp [wrN k (by omega)]) rfl (by simp)
    · rw [if_neg h] at ho
      repeat refine pw_seq ?_
      refine pw_N [] (by rfl) (by rfl) fun K Gc Gh hK hGc hGh X hX0 hX => ?_
      simp -implicitDefEqProofs [hX0, hX, e0, hc]
      try clear hX0 hX X
      intros
      refine hK _ _ _ ?_
      clear hK hGc hGh
      clear K Gc Gh
      repeat refine pw_seq ?_
      refine pw_cf (by simp; omega) ?_
      refine pw_skip ?_
      repeat refine pw_seq ?_
      refine pw_N [] (by rfl) (by rfl) fun K Gc Gh hK hGc hGh X hX0 hX => ?_
      simp -implicitDefEqProofs [hX0, hX]
      try clear hX0 hX X
      intros
      refine hK _ _ _ ?_
      clear hK hGc hGh
      clear K Gc Gh
      exact again_mk (k + 1, out, v1) [] ⟨hc, Nat.le_succ_of_le hol, ho⟩ (by simp; omega) (by simp [wrN k (by omega)]) rfl (by simp)
  · simp at hc
    obtain rfl : k = q.length := by omega
    rw [List.drop_length] at ho
    simp only [visQ, List.append_nil] at ho
    refine pw_exit ?_
    repeat refine pw_seq ?_
    refine pw_N [] (by rfl) (by rfl) fun K Gc Gh hK hGc hGh X hX0 hX => ?_
    simp -implicitDefEqProofs [hX0, hX]
    try clear hX0 hX X
    intros
    refine hK _ _ _ ?_
    clear hK hGc hGh
    clear K Gc Gh
    refine pw_frz 0 rfl ?_
    repeat refine pw_seq ?_
    exact pw_ret (ret_pure hd (by simp; rfl) (by rw [ho]; simp [oneOf]))

theorem wrap_64 (x : Int) : I64 (IntKind.i64.wrap x) := by rw [IntKind.wrap_i64]; unfold I64; omega

set_option maxRecDepth 20000 in
theorem priceR_ok (l : List Int) (d : Int) : RSpec Tryz.prog 110 [L l, I d] (fun p => ∃ z, p = I z) := by
  refine rspec_enter Tryz.func110 (by rfl) rfl Tryz.ntmps110 (congrArg Array.toList Tryz.results110) (by simp) fun S nx hd => ?_
  repeat refine pw_seq ?_
  refine pw_N [] (by rfl) (by rfl) fun K Gc Gh hK hGc hGh X hX0 hX => ?_
  simp -implicitDefEqProofs [hX0, hX]
  try clear hX0 hX X
  intros
  refine hK _ _ _ ?_
  clear hK hGc hGh
  clear K Gc Gh
  by_cases h1 : d < 0
  · repeat refine pw_seq ?_
    refine pw_N [(2, 7)] (by rfl) (by rfl) fun K Gc Gh hK hGc hGh X hX0 hX => ?_
    simp -implicitDefEqProofs [hX0, hX, h1, undef]
    try clear hX0 hX X
    intros
    refine hK _ _ _ ?_
    clear hK hGc hGh
    clear K Gc Gh
    repeat refine pw_seq ?_
    refine pw_ct rfl ?_
    repeat refine pw_seq ?_
    refine pw_N [] (by rfl) (by rfl) fun K Gc Gh hK hGc hGh X hX0 hX => ?_
    simp -implicitDefEqProofs [hX0, hX]
    try clear hX0 hX X
    intros
    refine hK _ _ _ ?_
    clear hK hGc hGh
    clear K Gc Gh
    repeat refine pw_seq ?_
    exact pw_ret ⟨_, S, (by simp; rfl), ⟨⟨0, rfl⟩, rfl⟩, ext_kill0 hd⟩
  by_cases h2 : (l.length : Int) ≤ d
  · repeat refine pw_seq ?_
    refine pw_N [(2, 7)] (by rfl) (by rfl) fun K Gc Gh hK hGc hGh X hX0 hX => ?_
    simp -implicitDefEqProofs [hX0, hX, h1, h2]
    try clear hX0 hX X
    intros
    refine hK _ _ _ ?_
    clear hK hGc hGh
    clear K Gc Gh
    repeat refine pw_seq ?_
    refine pw_ct rfl ?_
    repeat refine pw_seq ?_
    refine pw_N [] (by rfl) (by rfl) fun K Gc Gh hK hGc hGh X hX0 hX => ?_
    simp -implicitDefEqProofs [hX0, hX]
    try clear hX0 hX X
    intros
    refine hK _ _ _ ?_
    clear hK hGc hGh
    clear K Gc Gh
    repeat refine pw_seq ?_
    exact pw_ret ⟨_, S, (by simp; rfl), ⟨⟨0, rfl⟩, rfl⟩, ext_kill0 hd⟩
  obtain ⟨k, rfl⟩ := Int.eq_ofNat_of_zero_le (show 0 ≤ d by omega)
  obtain ⟨z, tl, a1, a2, a3, e0⟩ := el1 rfl l k (by omega)
  have hk : k < l.length := by omega
  repeat refine pw_seq ?_
  refine pw_N [(2, 7)] (by rfl) (by rfl) fun K Gc Gh hK hGc hGh X hX0 hX => ?_
  simp -implicitDefEqProofs [hX0, hX, h1, h2]
  try clear hX0 hX X
  intros
  refine hK _ _ _ ?_
  clear hK hGc hGh
  clear K Gc Gh
  repeat refine pw_seq ?_
  refine pw_cf rfl ?_
  refine pw_skip ?_
  repeat refine pw_seq ?_
  refine pw_N [] (by rfl) (by rfl) fun K Gc Gh hK hGc hGh X hX0 hX => ?_
  simp -implicitDefEqProofs [hX0, hX, hk, e0]
  try clear hX0 hX X
  intros
  refine hK _ _ _ ?_
  clear hK hGc hGh
  clear K Gc Gh
  repeat refine pw_seq ?_
  exact pw_ret ⟨_, S, (by simp; rfl), ⟨⟨z, rfl⟩, rfl⟩, ext_kill0 hd⟩

set_option maxRecDepth 20000 in
theorem costAny_ok (c : Cust) (n : Int) (l : List Int) (v : List Visit) (hc : CustFits c) (hv : VisOk v) : RSpec Tryz.prog 80 [.agg (custL c), I n, L l, L v] (fun p => ∃ z, p = I z) := by
  have hvn := hv.n
  have hb := bringsR_ok v n hv
  have hbn : (bringsV v n).length ≤ 1048576 := by rw [bringsV_len]; omega
  generalize bringsV v n = q at hb hbn
  have hni := nightsR_ok c q hc hbn
  have hnl : (nightsE c q).1.length ≤ 1048576 := by
    unfold nightsE
    split
    · simp
    · cases h : runN c.size c.rate c.start q with
      | none => simp
      | some l => simp [runN_len h]; exact hbn
  have hhe := heldR_ok c (nightsE c q).1 hnl
  generalize heldZ c (nightsE c q).1 = hz at hhe
  generalize nightsE c q = ne at hni hhe
  obtain ⟨ns, er⟩ := ne
  simp only at hni hhe
  refine rspec_enter Tryz.func80 (by rfl) rfl Tryz.ntmps80 (congrArg Array.toList Tryz.results80) (by simp) fun S nx hd => ?_
  repeat refine pw_seq ?_
  refine pw_N [] (by rfl) (by rfl) fun K Gc Gh hK hGc hGh X hX0 hX => ?_
  simp -implicitDefEqProofs [hX0, hX]
  try clear hX0 hX X
  intro v0
  refine hK _ _ _ ?_
  clear hK hGc hGh
  clear K Gc Gh
  repeat refine pw_seq ?_
  refine pw_N [] (by rfl) (by rfl) fun K Gc Gh hK hGc hGh X hX0 hX => ?_
  simp -implicitDefEqProofs [hX0, hX]
  try clear hX0 hX X
  intros
  refine hK _ _ _ ?_
  clear hK hGc hGh
  clear K Gc Gh
  repeat refine pw_seq ?_
  refine pw_N [] (by rfl) (by rfl) fun K Gc Gh hK hGc hGh X hX0 hX => ?_
  simp -implicitDefEqProofs [hX0, hX]
  try clear hX0 hX X
  intros
  refine hK _ _ _ ?_
  clear hK hGc hGh
  clear K Gc Gh
  repeat refine pw_seq ?_
  refine pw_joinK (nx := nx) (σ := Int) (fun _ => True) (fun z => [(1, I n), (3, L v), (4, .ptr nx v0 0), (9, I z)]) (fun _ => S) (fun _ => [.cells v0 54 (custL c)]) ?_ ?_
  · refine pw_block (pw_loopL (fun s : Nat × Int => s.1 ≤ v.length) (fun (k, z) => [(1, I n), (2, L l), (3, L v), (4, .ptr nx v0 0), (9, I z), (10, I k)]) (fun _ => [.cells v0 54 (custL c)]) (fun s => v.length - s.1) (0, 0) [] (by simp) (by simp) (by simp) ?_)
    rintro ⟨k, z⟩ hk
    simp only at hk ⊢
    repeat refine pw_seq ?_
    refine pw_N [] (by rfl) (by rfl) fun K Gc Gh hK hGc hGh X hX0 hX => ?_
    simp -implicitDefEqProofs [hX0, hX]
    try clear hX0 hX X
    intros
    refine hK _ _ _ ?_
    clear hK hGc hGh
    clear K Gc Gh
    repeat refine pw_seq ?_
    refine pw_cond rfl (fun hc1 => ?_) (fun hc1 => ?_)
    · simp at hc1
      obtain ⟨s, tl, a1, a2, a3, _, e0⟩ := el 2 rfl v k hc1
      refine pw_skip (pw_seq (pw_block ?_))
      repeat refine pw_seq ?_
      refine pw_N [] (by rfl) (by rfl) fun K Gc Gh hK hGc hGh X hX0 hX => ?_
      simp -implicitDefEqProofs [hX, hc1, e0]
      try clear hX0 hX X
      refine hGc _ _ _ _ _ _ _ fun hsuf => ((priceR_ok l s.d _).mono ?_).v
      rintro _ _ ⟨⟨y, rfl⟩, rfl⟩
      refine ⟨_, _, rfl, ?_⟩
      clear hGc hGh
      clear Gc Gh
      refine xs_go hsuf (D := []) (by rfl) fun Gc Gh hGc hGh X hX0 hX => ?_
      simp -implicitDefEqProofs [hX0, hX]
      try clear hX0 hX X
      intros
      refine hK _ _ _ ?_
      clear hK hGc hGh
      clear K Gc Gh
      repeat refine pw_seq ?_
      refine pw_N [] (by rfl) (by rfl) fun K Gc Gh hK hGc hGh X hX0 hX => ?_
      simp -implicitDefEqProofs [hX0, hX]
      try clear hX0 hX X
      intros
      refine hK _ _ _ ?_
      clear hK hGc hGh
      clear K Gc Gh
      exact again_mk (k + 1, IntKind.i64.wrap (z + y)) [] hc1 (by simp; omega) (by simp [wrN k (by omega)]) rfl (by simp)
    · simp at hc1
      exact pw_exit (at_mk z [] trivial (by simp) rfl (by simp))
  intro z _
  repeat refine pw_seq ?_
  refine pw_N [] (by rfl) (by rfl) fun K Gc Gh hK hGc hGh X hX0 hX => ?_
  simp -implicitDefEqProofs [hX0, hX]
  try clear hX0 hX X
  intros
  refine hK _ _ _ ?_
  clear hK hGc hGh
  clear K Gc Gh
  refine pw_joinK (nx := nx) (σ := Int) (fun _ => True) (fun z => [(9, I z)]) (fun _ => S) (fun _ => []) ?_ ?_
  · repeat refine pw_seq ?_
    refine pw_cond rfl (fun hk => ?_) (fun hk => ?_)
    · repeat refine pw_seq ?_
      refine pw_Y (some [nx]) (Row.pures [0, 1, 2, 3, 4, 5, 6, 7, 8, 9] .done) mixed (by rfl) (by rfl) (by rfl) fun K Gp Gc Gh hK hGp hGc hGh X hX0 hX1 hX2 hX => ?_
      simp -implicitDefEqProofs [hX2]
      try clear hX0 hX1 hX2 hX X
      refine hGp _ _ _ _ _ _ _ _ (hb) ?_
      clear hGp hGc hGh
      clear Gp Gc Gh
      refine px_go fun Gp Gc Gh hGp hGc hGh X hX0 hX1 hX2 hX => ?_
      simp -implicitDefEqProofs [hX2]
      try clear hX0 hX1 hX2 hX X
      refine hGp _ _ _ _ _ _ _ _ (hni) ?_
      clear hGp hGc hGh
      clear Gp Gc Gh
      refine px_go fun Gp Gc Gh hGp hGc hGh X hX0 hX1 hX2 hX => ?_
      simp -implicitDefEqProofs [hX0, hX2]
      try clear hX0 hX1 hX2 hX X
      refine hK _ _ _ ?_
      clear hK hGp hGc hGh
      clear K Gp Gc Gh
      repeat refine pw_seq ?_
      refine pw_N [] (by rfl) (by rfl) fun K Gc Gh hK hGc hGh X hX0 hX => ?_
      simp -implicitDefEqProofs [hX]
      try clear hX0 hX X
      refine hGc _ _ _ _ _ _ _ fun hsuf => ((hhe _).mono ?_).v
      rintro _ _ ⟨rfl, rfl⟩
      refine ⟨_, _, rfl, ?_⟩
      clear hGc hGh
      clear Gc Gh
      refine xs_go hsuf (D := []) (by rfl) fun Gc Gh hGc hGh X hX0 hX => ?_
      simp -implicitDefEqProofs [hX0, hX]
      try clear hX0 hX X
      intros
      refine hK _ _ _ ?_
      clear hK hGc hGh
      clear K Gc Gh
      exact at_mk (IntKind.i64.wrap (z + hz)) [_] trivial (by simp) rfl rfl
    · refine pw_skip ?_
      exact at_mk z [_] trivial (by simp) rfl rfl
  intro z _
  repeat refine pw_seq ?_
  refine pw_N [] (by rfl) (by rfl) fun K Gc Gh hK hGc hGh X hX0 hX => ?_
  simp -implicitDefEqProofs [hX0, hX]
  try clear hX0 hX X
  intros
  refine hK _ _ _ ?_
  clear hK hGc hGh
  clear K Gc Gh
  repeat refine pw_seq ?_
  exact pw_ret ⟨_, S, (by simp; rfl), ⟨⟨z, rfl⟩, rfl⟩, ext_kill0 hd⟩

def patV (c : Cust) (p : Nat) : List Visit := (daysTo p 0 64).map fun d => ⟨d, c.demand⟩
set_option maxRecDepth 20000 in
theorem patternR_ok (c : Cust) (p : Nat) (hp : p < 2 ^ 64) : Pure Tryz.prog 81 [.agg (custL c), U p] (L (patV c p)) := by
  have hall := allR_ok p hp
  have hln := daysTo_len p 0 64
  unfold patV
  generalize daysTo p 0 64 = l at hall hln
  refine pure_enter Tryz.func81 (by rfl) rfl Tryz.ntmps81 (congrArg Array.toList Tryz.results81) (by simp) fun S nx hd => ?_
  repeat refine pw_seq ?_
  refine pw_N [] (by rfl) (by rfl) fun K Gc Gh hK hGc hGh X hX0 hX => ?_
  simp -implicitDefEqProofs [hX0, hX]
  try clear hX0 hX X
  intro v0
  refine hK _ _ _ ?_
  clear hK hGc hGh
  clear K Gc Gh
  repeat refine pw_seq ?_
  refine pw_N [] (by rfl) (by rfl) fun K Gc Gh hK hGc hGh X hX0 hX => ?_
  simp -implicitDefEqProofs [hX0, hX]
  try clear hX0 hX X
  intros
  refine hK _ _ _ ?_
  clear hK hGc hGh
  clear K Gc Gh
  refine pw_seq (pw_nilX 5 69 2 rfl fun v1 => ?_)
  repeat refine pw_seq ?_
  refine pw_N [] (by rfl) (by rfl) fun K Gc Gh hK hGc hGh X hX0 hX => ?_
  simp -implicitDefEqProofs [hX]
  try clear hX0 hX X
  refine hGc _ _ _ _ _ _ _ fun hsuf => ((hall _).mono ?_).v
  rintro _ _ ⟨rfl, rfl⟩
  refine ⟨_, _, rfl, ?_⟩
  clear hGc hGh
  clear Gc Gh
  refine xs_go hsuf (D := []) (by rfl) fun Gc Gh hGc hGh X hX0 hX => ?_
  simp -implicitDefEqProofs [hX0, hX]
  try clear hX0 hX X
  intros
  refine hK _ _ _ ?_
  clear hK hGc hGh
  clear K Gc Gh
  repeat refine pw_seq ?_
  refine pw_N [] (by rfl) (by rfl) fun K Gc Gh hK hGc hGh X hX0 hX => ?_
  simp -implicitDefEqProofs [hX0, hX]
  try clear hX0 hX X
  intros
  refine hK _ _ _ ?_
  clear hK hGc hGh
  clear K Gc Gh
  repeat refine pw_seq ?_
  refine pw_block (pw_loopL (fun s : Nat × List Visit × Nat => s.1 ≤ l.length ∧ s.2.1 = (l.take s.1).map fun d => ⟨d, c.demand⟩) (fun (k, out, v1) => [(2, .ptr nx v0 0), (5, .sl (nx + 1) v1 2 0 out.length), (6, L l), (7, I k)]) (fun (k, out, v1) => [.cells v0 54 (custL c), .cells v1 69 (out.flatMap Enc.enc)]) (fun s => l.length - s.1) (0, [], v1) [] (by simp) (by simp) (by simp) ?_)
  rintro ⟨k, out, v1⟩ ⟨hk, ho⟩
  simp only at hk ho ⊢
  have hol : out.length = k := by rw [ho]; simp; omega
  repeat refine pw_seq ?_
  refine pw_N [] (by rfl) (by rfl) fun K Gc Gh hK hGc hGh X hX0 hX => ?_
  simp -implicitDefEqProofs [hX0, hX]
  try clear hX0 hX X
  intros
  refine hK _ _ _ ?_
  clear hK hGc hGh
  clear K Gc Gh
  repeat refine pw_seq ?_
  refine pw_cond rfl (fun hc => ?_) (fun hc => ?_)
  · simp at hc
    obtain ⟨d, tl, a1, a2, a3, e0⟩ := el1 rfl l k hc
    refine pw_skip (pw_seq (pw_block ?_))
    repeat refine pw_seq ?_
    refine pw_Y (some [nx]) (Row.pures [0, 1, 2, 3, 4, 5, 6, 7, 8] (.alt 9 (Row.pures [10] .done) .stop)) mixed (by rfl) (by rfl) (by rfl) fun K Gp Gc Gh hK hGp hGc hGh X hX0 hX1 hX2 hX => ?_
    simp -implicitDefEqProofs [hX0, hX1, hX2, hX, e0, hc]
    try clear hX0 hX1 hX2 hX X
    refine ⟨by omega, ?_⟩
    refine hK _ _ _ ?_
    clear hK hGp hGc hGh
    clear K Gp Gc Gh
    repeat refine pw_seq ?_
    refine pw_N [] (by rfl) (by rfl) fun K Gc Gh hK hGc hGh X hX0 hX => ?_
    simp -implicitDefEqProofs [hX0, hX]
    try clear hX0 hX X
    intros
    refine hK _ _ _ ?_
    clear hK hGc hGh
    clear K Gc Gh
    exact again_mk (k + 1, out ++ [⟨d, c.demand⟩], v1 + 1) [] ⟨hc, by rw [a3, ho]; simp⟩ (by simp; omega) (by simp [wrN k (by omega)]) rfl (by simp)
  · simp at hc
    obtain rfl : k = l.length := by omega
    rw [List.take_length] at ho
    refine pw_exit ?_
    repeat refine pw_seq ?_
    refine pw_N [] (by rfl) (by rfl) fun K Gc Gh hK hGc hGh X hX0 hX => ?_
    simp -implicitDefEqProofs [hX0, hX]
    try clear hX0 hX X
    intros
    refine hK _ _ _ ?_
    clear hK hGc hGh
    clear K Gc Gh
    refine pw_frz 1 rfl ?_
    repeat refine pw_seq ?_
    exact pw_ret (ret_pure hd (by simp; rfl) (by rw [ho]; simp [oneOf]))

set_option maxRecDepth 20000 in
theorem anyR_ok (c : Cust) (n : Nat) (cap : Int) (l : List Int) (hc : CustFits c) (hn : n ≤ 64) (hcap : cap ≤ 2147483648) :
    RSpec Tryz.prog 60 [.agg (custL c), I n, I cap, L l] (fun p => ∃ v b, p = .tup [L v, B b] ∧ (b = true → GoodV n v)) := by
  have vok : ∀ v, GoodV n v → VisOk v := fun v h => ⟨Nat.le_trans h.len (by decide), fun s hs => by have := h.ok s hs; omega, fun s hs => by have := h.ok s hs; unfold I64; omega⟩
  refine rspec_enter Tryz.func60 (by rfl) rfl Tryz.ntmps60 (congrArg Array.toList Tryz.results60) (by simp) fun S nx hd => ?_
  repeat refine pw_seq ?_
  refine pw_N [] (by rfl) (by rfl) fun K Gc Gh hK hGc hGh X hX0 hX => ?_
  simp -implicitDefEqProofs [hX0, hX]
  try clear hX0 hX X
  intro v0
  refine hK _ _ _ ?_
  clear hK hGc hGh
  clear K Gc Gh
  repeat refine pw_seq ?_
  refine pw_N [] (by rfl) (by rfl) fun K Gc Gh hK hGc hGh X hX0 hX => ?_
  simp -implicitDefEqProofs [hX]
  try clear hX0 hX X
  refine hGc _ _ _ _ _ _ _ fun hsuf => ((wayR2_ok c n cap false hc hn hcap _).mono ?_).v
  rintro _ _ ⟨⟨q, b, rfl, hq1, hq2⟩, rfl⟩
  refine ⟨_, _, rfl, ?_⟩
  clear hGc hGh
  clear Gc Gh
  refine xs_go hsuf (D := []) (by rfl) fun Gc Gh hGc hGh X hX0 hX => ?_
  simp -implicitDefEqProofs [hX0, hX]
  try clear hX0 hX X
  intros
  refine hK _ _ _ ?_
  clear hK hGc hGh
  clear K Gc Gh
  have gq := visQ_good hq2 (Nat.le_of_eq hq1) hn
  cases b with
  | false =>
    repeat refine pw_seq ?_
    refine pw_N [] (by rfl) (by rfl) fun K Gc Gh hK hGc hGh X hX0 hX => ?_
    simp -implicitDefEqProofs [hX0, hX]
    try clear hX0 hX X
    intros
    refine hK _ _ _ ?_
    clear hK hGc hGh
    clear K Gc Gh
    repeat refine pw_seq ?_
    refine pw_ct rfl ?_
    repeat refine pw_seq ?_
    refine pw_N [] (by rfl) (by rfl) fun K Gc Gh hK hGc hGh X hX0 hX => ?_
    simp -implicitDefEqProofs [hX0, hX]
    try clear hX0 hX X
    intros
    refine hK _ _ _ ?_
    clear hK hGc hGh
    clear K Gc Gh
    refine pw_nil_lst 8 rfl ?_
    repeat refine pw_seq ?_
    exact pw_ret ⟨_, S, (by simp; rfl), ⟨⟨[], false, by simp [oneOf], fun h => nomatch h⟩, rfl⟩, ext_kill0 hd⟩
  | true =>
    repeat refine pw_seq ?_
    refine pw_N [] (by rfl) (by rfl) fun K Gc Gh hK hGc hGh X hX0 hX => ?_
    simp -implicitDefEqProofs [hX0, hX]
    try clear hX0 hX X
    intros
    refine hK _ _ _ ?_
    clear hK hGc hGh
    clear K Gc Gh
    repeat refine pw_seq ?_
    refine pw_cf rfl ?_
    refine pw_skip ?_
    repeat refine pw_seq ?_
    refine pw_N [] (by rfl) (by rfl) fun K Gc Gh hK hGc hGh X hX0 hX => ?_
    simp -implicitDefEqProofs [hX]
    try clear hX0 hX X
    refine hGc _ _ _ _ _ _ _ fun hsuf => ((visitsQ_ok q (by omega) _).mono ?_).v
    rintro _ _ ⟨rfl, rfl⟩
    refine ⟨_, _, rfl, ?_⟩
    clear hGc hGh
    clear Gc Gh
    refine xs_go hsuf (D := []) (by rfl) fun Gc Gh hGc hGh X hX0 hX => ?_
    simp -implicitDefEqProofs [hX0, hX]
    try clear hX0 hX X
    intros
    refine hK _ _ _ ?_
    clear hK hGc hGh
    clear K Gc Gh
    repeat refine pw_seq ?_
    refine pw_N [] (by rfl) (by rfl) fun K Gc Gh hK hGc hGh X hX0 hX => ?_
    simp -implicitDefEqProofs [hX]
    try clear hX0 hX X
    refine hGc _ _ _ _ _ _ _ fun hsuf => ((wayR2_ok c n cap true hc hn hcap _).mono ?_).v
    rintro _ _ ⟨⟨q', b', rfl, hq1', hq2'⟩, rfl⟩
    refine ⟨_, _, rfl, ?_⟩
    clear hGc hGh
    clear Gc Gh
    refine xs_go hsuf (D := []) (by rfl) fun Gc Gh hGc hGh X hX0 hX => ?_
    simp -implicitDefEqProofs [hX0, hX]
    try clear hX0 hX X
    intros
    refine hK _ _ _ ?_
    clear hK hGc hGh
    clear K Gc Gh
    have gq' := visQ_good hq2' (Nat.le_of_eq hq1') hn
    repeat refine pw_seq ?_
    refine pw_N [] (by rfl) (by rfl) fun K Gc Gh hK hGc hGh X hX0 hX => ?_
    simp -implicitDefEqProofs [hX]
    try clear hX0 hX X
    refine hGc _ _ _ _ _ _ _ fun hsuf => ((visitsQ_ok q' (by omega) _).mono ?_).v
    rintro _ _ ⟨rfl, rfl⟩
    refine ⟨_, _, rfl, ?_⟩
    clear hGc hGh
    clear Gc Gh
    refine xs_go hsuf (D := []) (by rfl) fun Gc Gh hGc hGh X hX0 hX => ?_
    simp -implicitDefEqProofs [hX0, hX]
    try clear hX0 hX X
    intros
    refine hK _ _ _ ?_
    clear hK hGc hGh
    clear K Gc Gh
    cases b' with
    | false =>
      repeat refine pw_seq ?_
      refine pw_Y (some [nx]) (Row.pures [0, 1, 2, 3, 4, 5, 6, 7, 8, 9, 10, 11, 12, 13] .done) mixed (by rfl) (by rfl) (by rfl) fun K Gp Gc Gh hK hGp hGc hGh X hX0 hX1 hX2 hX => ?_
      simp -implicitDefEqProofs [hX0, hX2, undef]
      try clear hX0 hX1 hX2 hX X
      refine hK _ _ _ ?_
      clear hK hGp hGc hGh
      clear K Gp Gc Gh
      repeat refine pw_seq ?_
      refine pw_cf rfl ?_
      refine pw_skip ?_
      repeat refine pw_seq ?_
      refine pw_N [] (by rfl) (by rfl) fun K Gc Gh hK hGc hGh X hX0 hX => ?_
      simp -implicitDefEqProofs [hX0, hX]
      try clear hX0 hX X
      intros
      refine hK _ _ _ ?_
      clear hK hGc hGh
      clear K Gc Gh
      repeat refine pw_seq ?_
      exact pw_ret ⟨_, S, (by simp; rfl), ⟨⟨visQ 0 q, true, by simp [oneOf], fun _ => gq⟩, rfl⟩, ext_kill0 hd⟩
    | true =>
      have e1 := costAny_ok c n l (visQ 0 q') hc (vok _ gq')
      have e2 := costAny_ok c n l (visQ 0 q) hc (vok _ gq)
      generalize visQ 0 q' = w at *
      generalize visQ 0 q = v at *
      repeat refine pw_seq ?_
      refine pw_Y (some [nx]) (Row.pures [0, 1, 2, 3, 4, 5, 7, 8, 9, 10] (.alt 6 (.alt 11 (Row.pures [12, 13] .done) .stop) .stop)) mixed (by rfl) (by rfl) (by rfl) fun K Gp Gc Gh hK hGp hGc hGh X hX0 hX1 hX2 hX => ?_
      simp -implicitDefEqProofs [hX1, hX2, hX]
      try clear hX0 hX1 hX2 hX X
      refine hGc _ _ _ _ _ _ _ (((e1 _).mono ?_).v)
      rintro _ _ ⟨⟨y, rfl⟩, rfl⟩
      refine ⟨by simp, ?_⟩
      clear hGp hGc hGh
      clear Gp Gc Gh
      refine px_go fun Gp Gc Gh hGp hGc hGh X hX0 hX1 hX2 hX => ?_
      simp -implicitDefEqProofs [hX1, hX]
      try clear hX0 hX1 hX2 hX X
      refine hGc _ _ _ _ _ _ _ (((e2 _).mono ?_).v)
      rintro _ _ ⟨⟨z, rfl⟩, rfl⟩
      refine ⟨by simp, ?_⟩
      clear hGp hGc hGh
      clear Gp Gc Gh
      refine px_go fun Gp Gc Gh hGp hGc hGh X hX0 hX1 hX2 hX => ?_
      simp -implicitDefEqProofs [hX0, hX2]
      try clear hX0 hX1 hX2 hX X
      refine hK _ _ _ ?_
      clear hK hGp hGc hGh
      clear K Gp Gc Gh
      repeat refine pw_seq ?_
      refine pw_cond rfl (fun h => ?_) (fun h => ?_)
      · repeat refine pw_seq ?_
        refine pw_N [] (by rfl) (by rfl) fun K Gc Gh hK hGc hGh X hX0 hX => ?_
        simp -implicitDefEqProofs [hX0, hX]
        try clear hX0 hX X
        intros
        refine hK _ _ _ ?_
        clear hK hGc hGh
        clear K Gc Gh
        repeat refine pw_seq ?_
        exact pw_ret ⟨_, S, (by simp; rfl), ⟨⟨w, true, by simp [oneOf], fun _ => gq'⟩, rfl⟩, ext_kill0 hd⟩
      · refine pw_skip ?_
        repeat refine pw_seq ?_
        refine pw_N [] (by rfl) (by rfl) fun K Gc Gh hK hGc hGh X hX0 hX => ?_
        simp -implicitDefEqProofs [hX0, hX]
        try clear hX0 hX X
        intros
        refine hK _ _ _ ?_
        clear hK hGc hGh
        clear K Gc Gh
        repeat refine pw_seq ?_
        exact pw_ret ⟨_, S, (by simp; rfl), ⟨⟨v, true, by simp [oneOf], fun _ => gq⟩, rfl⟩, ext_kill0 hd⟩

end Go.Proofs.YtlkcdaeknioanaaGreat.Pv
