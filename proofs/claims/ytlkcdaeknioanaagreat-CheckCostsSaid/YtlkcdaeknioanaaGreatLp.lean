/- Plans made of any (tranterref11.All, tranterref16.visits, put, Made). -/
import Derived.Test.YtlkcdaeknioanaaGreatLo
namespace Go.Proofs.YtlkcdaeknioanaaGreat.Pv
open Go

set_option maxRecDepth 20000 in
theorem allV_ok (c : Cust) (n : Nat) (cap : Int) (hc : CustFits c) (hn : n ≤ 16) (hcap : cap ≤ 2147483648) (hp : ∀ p ∈ c.pats, p < 2 ^ 64) (hpl : c.pats.length ≤ 1048576) (hpd : c.kind = 1 → (∀ p ∈ c.pats, ∀ d ∈ daysTo p 0 64, d < n) ∧ 1 ≤ c.demand ∧ c.demand ≤ 2147483648) :
    RSpec Tryz.prog 61 [.agg (custL c), I n, I cap] (fun p => ∃ vs : List (List Visit), p = L vs ∧ vs.length ≤ 1048576 ∧ ∀ v ∈ vs, GoodV n v) := by
  have patg : c.kind = 1 → ∀ p ∈ c.pats, GoodV n (patV c p) := fun hk p hpm => by
    obtain ⟨h1, h2⟩ := hpd hk
    refine ⟨by simp only [patV, List.length_map]; exact daysTo_len _ _ _, fun s hs => ?_, by simp only [patV, List.map_map]; exact (by simpa [Function.comp_def] using daysTo_nd p 0 64)⟩
    simp only [patV, List.mem_map] at hs
    obtain ⟨d, hd, rfl⟩ := hs
    have h0 : 0 ≤ d := by
      simp only [daysTo, List.mem_map] at hd
      obtain ⟨i, _, rfl⟩ := hd; omega
    exact ⟨⟨h0, h1 p hpm d hd⟩, h2⟩
  refine rspec_enter Tryz.func61 (by rfl) rfl Tryz.ntmps61 (congrArg Array.toList Tryz.results61) (by simp) fun S nx hd => ?_
  repeat refine pw_seq ?_
  refine pw_N [] (by rfl) (by rfl) fun K Gc Gh hK hGc hGh X hX0 hX => ?_
  simp -implicitDefEqProofs [hX0, hX]
  try clear hX0 hX X
  intro v0
  refine hK _ _ _ ?_
  clear hK hGc hGh
  clear K Gc Gh
  repeat refine pw_seq ?_
  refine pw_N [] (by rfl) (by rfl) fun K Gc Gh hK hGc hGh X hX0 hX => ?_
  simp -implicitDefEqProofs [hX0, hX]
  try clear hX0 hX X
  intros
  refine hK _ _ _ ?_
  clear hK hGc hGh
  clear K Gc Gh
  refine pw_seq (pw_nilX 7 65 1 rfl fun v1 => ?_)
  repeat refine pw_seq ?_
  refine pw_N [] (by rfl) (by rfl) fun K Gc Gh hK hGc hGh X hX0 hX => ?_
  simp -implicitDefEqProofs [hX0, hX]
  try clear hX0 hX X
  intros
  refine hK _ _ _ ?_
  clear hK hGc hGh
  clear K Gc Gh
  repeat refine pw_seq ?_
  refine pw_cond rfl (fun hk => ?_) (fun hk => ?_)
  · simp at hk
    repeat refine pw_seq ?_
    refine pw_N [] (by rfl) (by rfl) fun K Gc Gh hK hGc hGh X hX0 hX => ?_
    simp -implicitDefEqProofs [hX0, hX]
    try clear hX0 hX X
    intros
    refine hK _ _ _ ?_
    clear hK hGc hGh
    clear K Gc Gh
    repeat refine pw_seq ?_
    refine pw_block (pw_loopL (fun s : Nat × List (List Visit) × Nat => s.1 ≤ c.pats.length ∧ s.2.1.length ≤ s.1 ∧ ∀ v ∈ s.2.1, GoodV n v) (fun (k, out, v1) => [(1, I n), (2, I cap), (3, .ptr nx v0 0), (7, .sl (nx + 1) v1 1 0 out.length), (8, I k)]) (fun (k, out, v1) => [.cells v0 54 (custL c), .cells v1 65 (out.flatMap Enc.enc)]) (fun s => c.pats.length - s.1) (0, [], v1) [] (by simp) (by simp) (by simp) ?_)
    rintro ⟨k, out, v1⟩ ⟨hkl, hol, hg⟩
    simp only at hkl hol hg ⊢
    repeat refine pw_seq ?_
    refine pw_N [] (by rfl) (by rfl) fun K Gc Gh hK hGc hGh X hX0 hX => ?_
    simp -implicitDefEqProofs [hX0, hX]
    try clear hX0 hX X
    intros
    refine hK _ _ _ ?_
    clear hK hGc hGh
    clear K Gc Gh
    repeat refine pw_seq ?_
    refine pw_cond rfl (fun hc1 => ?_) (fun hc1 => ?_)
    · simp at hc1
      obtain ⟨p, tl, a1, a2, a3, e0⟩ := el1 rfl c.pats k hc1
      have hpm := List.mem_of_getElem? a1
      have hgp := patg hk p hpm
      refine pw_skip (pw_seq (pw_block ?_))
      repeat refine pw_seq ?_
      refine pw_Y (some [nx]) (Row.pures [0, 1, 2, 3, 4, 5, 6, 7] .done) mixed (by rfl) (by rfl) (by rfl) fun K Gp Gc Gh hK hGp hGc hGh X hX0 hX1 hX2 hX => ?_
      simp -implicitDefEqProofs [hX2, hc1, e0]
      try clear hX0 hX1 hX2 hX X
      refine hGp _ _ _ _ _ _ _ _ (patternR_ok c p (hp p hpm)) ?_
      clear hGp hGc hGh
      clear Gp Gc Gh
      refine px_go fun Gp Gc Gh hGp hGc hGh X hX0 hX1 hX2 hX => ?_
      simp -implicitDefEqProofs [hX0, hX2]
      try clear hX0 hX1 hX2 hX X
      refine hK _ _ _ ?_
      clear hK hGp hGc hGh
      clear K Gp Gc Gh
      repeat refine pw_seq ?_
      refine pw_joinK (nx := nx) (σ := Bool × Nat) (fun _ => True) (fun (t, v1) => [(1, I n), (2, I cap), (3, .ptr nx v0 0), (7, .sl (nx + 1) v1 1 0 out.length), (8, I k), (9, L (patV c p)), (40, B t)]) (fun _ => S) (fun (t, v1) => [.cells v0 54 (custL c), .cells v1 65 (out.flatMap Enc.enc)]) ?_ ?_
      · by_cases h0 : patV c p = []
        · repeat refine pw_seq ?_
          refine pw_N [(3, 35)] (by rfl) (by rfl) fun K Gc Gh hK hGc hGh X hX0 hX => ?_
          simp -implicitDefEqProofs [hX0, hX, h0, undef]
          try clear hX0 hX X
          intros
          refine hK _ _ _ ?_
          clear hK hGc hGh
          clear K Gc Gh
          exact at_mk (true, v1) [] trivial (by simp [h0]) rfl (by simp)
        · repeat refine pw_seq ?_
          refine pw_N [(3, 35)] (by rfl) (by rfl) fun K Gc Gh hK hGc hGh X hX0 hX => ?_
          simp -implicitDefEqProofs [hX0, hX, h0]
          try clear hX0 hX X
          intros
          refine hK _ _ _ ?_
          clear hK hGc hGh
          clear K Gc Gh
          exact at_mk (_, v1) [] trivial (by simp; rfl) rfl (by simp)
      rintro ⟨t, v1⟩ -
      simp only
      cases t with
      | true =>
        repeat refine pw_seq ?_
        refine pw_ct rfl ?_
        repeat refine pw_seq ?_
        refine pw_N [] (by rfl) (by rfl) fun K Gc Gh hK hGc hGh X hX0 hX => ?_
        simp -implicitDefEqProofs [hX0, hX]
        try clear hX0 hX X
        refine ⟨by omega, ?_⟩
        intros
        refine hK _ _ _ ?_
        clear hK hGc hGh
        clear K Gc Gh
        repeat refine pw_seq ?_
        refine pw_N [] (by rfl) (by rfl) fun K Gc Gh hK hGc hGh X hX0 hX => ?_
        simp -implicitDefEqProofs [hX0, hX]
        try clear hX0 hX X
        intros
        refine hK _ _ _ ?_
        clear hK hGc hGh
        clear K Gc Gh
        exact again_mk (k + 1, out ++ [patV c p], v1 + 1) [] ⟨hc1, by simp; omega, fun v hv => by rcases List.mem_append.1 hv with h | h; exact hg v h; rw [List.mem_singleton.1 h]; exact hgp⟩ (by simp; omega) (by simp [wrN k (by omega)]) rfl (by simp)
      | false =>
        repeat refine pw_seq ?_
        refine pw_cf rfl ?_
        refine pw_skip ?_
        repeat refine pw_seq ?_
        refine pw_N [] (by rfl) (by rfl) fun K Gc Gh hK hGc hGh X hX0 hX => ?_
        simp -implicitDefEqProofs [hX0, hX]
        try clear hX0 hX X
        intros
        refine hK _ _ _ ?_
        clear hK hGc hGh
        clear K Gc Gh
        exact again_mk (k + 1, out, v1) [] ⟨hc1, Nat.le_succ_of_le hol, hg⟩ (by simp; omega) (by simp [wrN k (by omega)]) rfl (by simp)
    · simp at hc1
      refine pw_exit ?_
      repeat refine pw_seq ?_
      refine pw_N [] (by rfl) (by rfl) fun K Gc Gh hK hGc hGh X hX0 hX => ?_
      simp -implicitDefEqProofs [hX0, hX]
      try clear hX0 hX X
      intros
      refine hK _ _ _ ?_
      clear hK hGc hGh
      clear K Gc Gh
      refine pw_frz 1 rfl ?_
      repeat refine pw_seq ?_
      exact pw_ret ⟨_, S, (by simp; rfl), ⟨⟨out, by simp [oneOf], by omega, hg⟩, rfl⟩, ext_kill0 hd⟩
  · simp at hk
    refine pw_skip ?_
    repeat refine pw_seq ?_
    refine pw_N [] (by rfl) (by rfl) fun K Gc Gh hK hGc hGh X hX0 hX => ?_
    simp -implicitDefEqProofs [hX0, hX]
    try clear hX0 hX X
    intros
    refine hK _ _ _ ?_
    clear hK hGc hGh
    clear K Gc Gh
    repeat refine pw_seq ?_
    refine pw_N [] (by rfl) (by rfl) fun K Gc Gh hK hGc hGh X hX0 hX => ?_
    simp -implicitDefEqProofs [hX0, hX]
    try clear hX0 hX X
    intros
    refine hK _ _ _ ?_
    clear hK hGc hGh
    clear K Gc Gh
    repeat refine pw_seq ?_
    have h2n : ∀ k : Nat, k ≤ n → 2 ^ k ≤ 65536 := fun k hk => by
      calc 2 ^ k ≤ 2 ^ 16 := Nat.pow_le_pow_right (by decide) (by omega)
        _ = 65536 := by decide
    refine pw_joinK (nx := nx) (σ := Nat) (fun _ => True) (fun v1 => [(1, I n), (2, I cap), (3, .ptr nx v0 0), (7, .sl (nx + 1) v1 1 0 0), (10, U (2 ^ n))]) (fun _ => S) (fun v1 => [.cells v0 54 (custL c), .cells v1 65 []]) ?_ ?_
    · refine pw_block (pw_loopL (fun s : Nat => s ≤ n) (fun k => [(1, I n), (2, I cap), (3, .ptr nx v0 0), (7, .sl (nx + 1) v1 1 0 0), (10, U (2 ^ k)), (11, I k)]) (fun k => [.cells v0 54 (custL c), .cells v1 65 []]) (fun s => n - s) 0 [] (by simp) (by simp) (by simp) ?_)
      rintro k hkn
      repeat refine pw_seq ?_
      refine pw_N [] (by rfl) (by rfl) fun K Gc Gh hK hGc hGh X hX0 hX => ?_
      simp -implicitDefEqProofs [hX0, hX]
      try clear hX0 hX X
      intros
      refine hK _ _ _ ?_
      clear hK hGc hGh
      clear K Gc Gh
      repeat refine pw_seq ?_
      refine pw_cond rfl (fun hc1 => ?_) (fun hc1 => ?_)
      · simp at hc1
        have := h2n k hkn
        have u1 : IntKind.u64.wrap (2 * 2 ^ k) = 2 ^ (k + 1) := by
          have e2 : (2 : Int) ^ k = ((2 ^ k : Nat) : Int) := by simp
          have e3 : (2 : Int) ^ (k + 1) = 2 * 2 ^ k := by rw [Int.pow_succ, Int.mul_comm]
          rw [e3, e2]
          generalize 2 ^ k = m at this ⊢
          rw [IntWalk.u64_in _ (by omega)]
        refine pw_skip (pw_seq (pw_block ?_))
        repeat refine pw_seq ?_
        refine pw_N [] (by rfl) (by rfl) fun K Gc Gh hK hGc hGh X hX0 hX => ?_
        simp -implicitDefEqProofs [hX0, hX, u1]
        try clear hX0 hX X
        intros
        refine hK _ _ _ ?_
        clear hK hGc hGh
        clear K Gc Gh
        repeat refine pw_seq ?_
        refine pw_N [] (by rfl) (by rfl) fun K Gc Gh hK hGc hGh X hX0 hX => ?_
        simp -implicitDefEqProofs [hX0, hX]
        try clear hX0 hX X
        intros
        refine hK _ _ _ ?_
        clear hK hGc hGh
        clear K Gc Gh
        exact again_mk (k + 1) [] hc1 (by omega) (by simp [wrN k (by omega)]) rfl (by simp)
      · simp at hc1
        obtain rfl : k = n := by omega
        exact pw_exit (at_mk v1 [] trivial (by simp) rfl (by simp))
    intro v1 _
    have hl16 := h2n n (Nat.le_refl _)
    generalize 2 ^ n = last at hl16 ⊢
    repeat refine pw_seq ?_
    refine pw_N [] (by rfl) (by rfl) fun K Gc Gh hK hGc hGh X hX0 hX => ?_
    simp -implicitDefEqProofs [hX0, hX]
    try clear hX0 hX X
    intros
    refine hK _ _ _ ?_
    clear hK hGc hGh
    clear K Gc Gh
    repeat refine pw_seq ?_
    refine pw_block (pw_loopL (fun s : Nat × List (List Visit) × Nat => s.1 ≤ last ∧ s.2.1.length ≤ s.1 ∧ ∀ v ∈ s.2.1, GoodV n v) (fun (k, out, v1) => [(1, I n), (2, I cap), (3, .ptr nx v0 0), (7, .sl (nx + 1) v1 1 0 out.length), (10, U last), (12, U k)]) (fun (k, out, v1) => [.cells v0 54 (custL c), .cells v1 65 (out.flatMap Enc.enc)]) (fun s => last - s.1) (0, [], v1) [] (by simp) (by simp) (by simp) ?_)
    rintro ⟨k, out, v1⟩ ⟨hkl, hol, hg⟩
    simp only at hkl hol hg ⊢
    repeat refine pw_seq ?_
    refine pw_N [] (by rfl) (by rfl) fun K Gc Gh hK hGc hGh X hX0 hX => ?_
    simp -implicitDefEqProofs [hX0, hX]
    try clear hX0 hX X
    intros
    refine hK _ _ _ ?_
    clear hK hGc hGh
    clear K Gc Gh
    repeat refine pw_seq ?_
    refine pw_cond rfl (fun hc1 => ?_) (fun hc1 => ?_)
    · simp at hc1
      have u1 : IntKind.u64.wrap ((k : Int) + 1) = ((k + 1 : Nat) : Int) := by rw [IntWalk.u64_in _ (by omega)]; omega
      refine pw_skip (pw_seq (pw_block ?_))
      repeat refine pw_seq ?_
      refine pw_N [] (by rfl) (by rfl) fun K Gc Gh hK hGc hGh X hX0 hX => ?_
      simp -implicitDefEqProofs [hX]
      try clear hX0 hX X
      refine hGc _ _ _ _ _ _ _ fun hsuf => ((filledR_ok c n cap k hc (by omega) hcap (by omega) _).mono ?_).v
      rintro _ _ ⟨⟨q, b, rfl, hq1, hq2⟩, rfl⟩
      refine ⟨_, _, rfl, ?_⟩
      clear hGc hGh
      clear Gc Gh
      refine xs_go hsuf (D := []) (by rfl) fun Gc Gh hGc hGh X hX0 hX => ?_
      simp -implicitDefEqProofs [hX0, hX]
      try clear hX0 hX X
      intros
      refine hK _ _ _ ?_
      clear hK hGc hGh
      clear K Gc Gh
      repeat refine pw_seq ?_
      refine pw_N [] (by rfl) (by rfl) fun K Gc Gh hK hGc hGh X hX0 hX => ?_
      simp -implicitDefEqProofs [hX0, hX]
      try clear hX0 hX X
      intros
      refine hK _ _ _ ?_
      clear hK hGc hGh
      clear K Gc Gh
      cases b with
      | true =>
        repeat refine pw_seq ?_
        refine pw_ct rfl ?_
        repeat refine pw_seq ?_
        refine pw_N [] (by rfl) (by rfl) fun K Gc Gh hK hGc hGh X hX0 hX => ?_
        simp -implicitDefEqProofs [hX]
        try clear hX0 hX X
        refine hGc _ _ _ _ _ _ _ fun hsuf => ((visitsQ_ok q (by omega) _).mono ?_).v
        rintro _ _ ⟨rfl, rfl⟩
        refine ⟨_, _, rfl, ?_⟩
        clear hGc hGh
        clear Gc Gh
        refine xs_go hsuf (D := []) (by rfl) fun Gc Gh hGc hGh X hX0 hX => ?_
        simp -implicitDefEqProofs [hX0, hX]
        try clear hX0 hX X
        refine ⟨by omega, ?_⟩
        intros
        refine hK _ _ _ ?_
        clear hK hGc hGh
        clear K Gc Gh
        repeat refine pw_seq ?_
        refine pw_N [] (by rfl) (by rfl) fun K Gc Gh hK hGc hGh X hX0 hX => ?_
        simp -implicitDefEqProofs [hX0, hX, u1]
        try clear hX0 hX X
        intros
        refine hK _ _ _ ?_
        clear hK hGc hGh
        clear K Gc Gh
        exact again_mk (k + 1, out ++ [visQ 0 q], v1 + 1) [] ⟨hc1, by simp; omega, fun v hv => by rcases List.mem_append.1 hv with h | h; exact hg v h; rw [List.mem_singleton.1 h]; exact visQ_good hq2 hq1 (by omega)⟩ (by simp; omega) (by simp) rfl (by simp)
      | false =>
        repeat refine pw_seq ?_
        refine pw_cf rfl ?_
        refine pw_skip ?_
        repeat refine pw_seq ?_
        refine pw_N [] (by rfl) (by rfl) fun K Gc Gh hK hGc hGh X hX0 hX => ?_
        simp -implicitDefEqProofs [hX0, hX, u1]
        try clear hX0 hX X
        intros
        refine hK _ _ _ ?_
        clear hK hGc hGh
        clear K Gc Gh
        exact again_mk (k + 1, out, v1) [] ⟨hc1, Nat.le_succ_of_le hol, hg⟩ (by simp; omega) (by simp) rfl (by simp)
    · simp at hc1
      refine pw_exit ?_
      repeat refine pw_seq ?_
      refine pw_N [] (by rfl) (by rfl) fun K Gc Gh hK hGc hGh X hX0 hX => ?_
      simp -implicitDefEqProofs [hX0, hX]
      try clear hX0 hX X
      intros
      refine hK _ _ _ ?_
      clear hK hGc hGh
      clear K Gc Gh
      refine pw_frz 1 rfl ?_
      repeat refine pw_seq ?_
      exact pw_ret ⟨_, S, (by simp; rfl), ⟨⟨out, by simp [oneOf], by omega, hg⟩, rfl⟩, ext_kill0 hd⟩

/-- A customer for whom visits are looked for. -/
structure CustMade (c : Cust) (n : Nat) : Prop where
  fits : CustFits c
  pats : ∀ p ∈ c.pats, p < 2 ^ 64
  npats : c.pats.length ≤ 1048576
  per : c.kind = 1 → (∀ p ∈ c.pats, ∀ d ∈ daysTo p 0 64, d < n) ∧ 1 ≤ c.demand ∧ c.demand ≤ 2147483648

set_option maxRecDepth 20000 in
theorem visitsM_ok (x : Inst) (c : Cust) (n : Nat) (i : Nat) (pick : List Int) (hc : CustMade c n) (hxd : x.days = n) (hn : n ≤ 16) (hcap : x.cap ≤ 2147483648) (hpk : ∀ z ∈ pick, I64 z) :
    RSpec Tryz.prog 32 [.agg (instL x), .agg (custL c), I i, L pick] (fun p => ∃ v b, p = .tup [L v, B b] ∧ (b = true → GoodV n v)) := by
  have hany : RSpec Tryz.prog 60 [.agg (custL c), I n, I x.cap, .sc (.slice none 0 0)] (fun p => ∃ v b, p = .tup [L v, B b] ∧ (b = true → GoodV n v)) :=
    fun S => spec_wk (.cons Wk.rfl (.cons Wk.rfl (.cons Wk.rfl (.cons Wk.nil .nil)))) (anyR_ok c n x.cap [] hc.fits (by omega) hcap S)
  refine rspec_enter Tryz.func32 (by rfl) rfl Tryz.ntmps32 (congrArg Array.toList Tryz.results32) (by simp) fun S nx hd => ?_
  repeat refine pw_seq ?_
  refine pw_N [] (by rfl) (by rfl) fun K Gc Gh hK hGc hGh X hX0 hX => ?_
  simp -implicitDefEqProofs [hX0, hX]
  try clear hX0 hX X
  intro v0 v1
  refine hK _ _ _ ?_
  clear hK hGc hGh
  clear K Gc Gh
  repeat refine pw_seq ?_
  refine pw_N [] (by rfl) (by rfl) fun K Gc Gh hK hGc hGh X hX0 hX => ?_
  simp -implicitDefEqProofs [hX0, hX]
  try clear hX0 hX X
  intros
  refine hK _ _ _ ?_
  clear hK hGc hGh
  clear K Gc Gh
  repeat refine pw_seq ?_
  refine pw_cond rfl (fun hr => ?_) (fun hr => ?_)
  · repeat refine pw_seq ?_
    refine pw_N [] (by rfl) (by rfl) fun K Gc Gh hK hGc hGh X hX0 hX => ?_
    simp -implicitDefEqProofs [hX, hxd]
    try clear hX0 hX X
    refine hGc _ _ _ _ _ _ _ fun hsuf => ((hany _).mono ?_).v
    rintro _ _ ⟨⟨v, b, rfl, hg⟩, rfl⟩
    refine ⟨_, _, rfl, ?_⟩
    clear hGc hGh
    clear Gc Gh
    refine xs_go hsuf (D := []) (by rfl) fun Gc Gh hGc hGh X hX0 hX => ?_
    simp -implicitDefEqProofs [hX0, hX]
    try clear hX0 hX X
    intros
    refine hK _ _ _ ?_
    clear hK hGc hGh
    clear K Gc Gh
    repeat refine pw_seq ?_
    exact pw_ret ⟨_, S, (by simp; rfl), ⟨⟨v, b, by simp [oneOf], hg⟩, rfl⟩, ext_kill0 hd⟩
  · refine pw_skip ?_
    repeat refine pw_seq ?_
    refine pw_N [] (by rfl) (by rfl) fun K Gc Gh hK hGc hGh X hX0 hX => ?_
    simp -implicitDefEqProofs [hX, hxd]
    try clear hX0 hX X
    refine hGc _ _ _ _ _ _ _ fun hsuf => ((allV_ok c n x.cap hc.fits hn hcap hc.pats hc.npats hc.per _).mono ?_).v
    rintro _ _ ⟨⟨vs, rfl, hvl, hg⟩, rfl⟩
    refine ⟨_, _, rfl, ?_⟩
    clear hGc hGh
    clear Gc Gh
    refine xs_go hsuf (D := []) (by rfl) fun Gc Gh hGc hGh X hX0 hX => ?_
    simp -implicitDefEqProofs [hX0, hX]
    try clear hX0 hX X
    intros
    refine hK _ _ _ ?_
    clear hK hGc hGh
    clear K Gc Gh
    by_cases h0 : vs = []
    · repeat refine pw_seq ?_
      refine pw_N [] (by rfl) (by rfl) fun K Gc Gh hK hGc hGh X hX0 hX => ?_
      simp -implicitDefEqProofs [hX0, hX, h0]
      try clear hX0 hX X
      intros
      refine hK _ _ _ ?_
      clear hK hGc hGh
      clear K Gc Gh
      repeat refine pw_seq ?_
      refine pw_ct (by simp) ?_
      repeat refine pw_seq ?_
      refine pw_N [] (by rfl) (by rfl) fun K Gc Gh hK hGc hGh X hX0 hX => ?_
      simp -implicitDefEqProofs [hX0, hX]
      try clear hX0 hX X
      intros
      refine hK _ _ _ ?_
      clear hK hGc hGh
      clear K Gc Gh
      refine pw_nil_lst 8 rfl ?_
      repeat refine pw_seq ?_
      exact pw_ret ⟨_, S, (by simp; rfl), ⟨⟨[], false, by simp [oneOf], fun h => nomatch h⟩, rfl⟩, ext_kill0 hd⟩
    · repeat refine pw_seq ?_
      refine pw_N [] (by rfl) (by rfl) fun K Gc Gh hK hGc hGh X hX0 hX => ?_
      simp -implicitDefEqProofs [hX0, hX, h0]
      try clear hX0 hX X
      intros
      refine hK _ _ _ ?_
      clear hK hGc hGh
      clear K Gc Gh
      repeat refine pw_seq ?_
      refine pw_cf (by simp) ?_
      refine pw_skip ?_
      have hpos := List.length_pos_iff.2 h0
      repeat refine pw_seq ?_
      refine pw_N [] (by rfl) (by rfl) fun K Gc Gh hK hGc hGh X hX0 hX => ?_
      simp -implicitDefEqProofs [hX0, hX]
      try clear hX0 hX X
      intros
      refine hK _ _ _ ?_
      clear hK hGc hGh
      clear K Gc Gh
      repeat refine pw_seq ?_
      refine pw_N [] (by rfl) (by rfl) fun K Gc Gh hK hGc hGh X hX0 hX => ?_
      simp -implicitDefEqProofs [hX0, hX]
      try clear hX0 hX X
      intros
      refine hK _ _ _ ?_
      clear hK hGc hGh
      clear K Gc Gh
      repeat refine pw_seq ?_
      refine pw_joinK (nx := nx) (σ := Int × Nat × Nat) (fun s => I64 s.1) (fun (z, v0, v1) => [(10, L vs), (11, I z)]) (fun _ => S) (fun (z, v0, v1) => []) ?_ ?_
      · by_cases h1 : i < pick.length
        · obtain ⟨z, tl, a1, a2, a3, e0⟩ := el1 rfl pick i h1
          repeat refine pw_seq ?_
          refine pw_ct (by simp [h1]) ?_
          repeat refine pw_seq ?_
          refine pw_N [] (by rfl) (by rfl) fun K Gc Gh hK hGc hGh X hX0 hX => ?_
          simp -implicitDefEqProofs [hX0, hX, h1, e0]
          try clear hX0 hX X
          intros
          refine hK _ _ _ ?_
          clear hK hGc hGh
          clear K Gc Gh
          exact at_mk (z, v0, v1) [_, _] (hpk z (List.mem_of_getElem? a1)) (by simp) rfl rfl
        · repeat refine pw_seq ?_
          refine pw_cf (by simp; omega) ?_
          refine pw_skip ?_
          exact at_mk (0, v0, v1) [_, _] (by unfold I64; omega) (by simp) rfl rfl
      rintro ⟨z, v0, v1⟩ hz
      simp only at hz ⊢
      unfold I64 at hz
      repeat refine pw_seq ?_
      refine pw_N [] (by rfl) (by rfl) fun K Gc Gh hK hGc hGh X hX0 hX => ?_
      simp -implicitDefEqProofs [hX0, hX]
      try clear hX0 hX X
      intros
      refine hK _ _ _ ?_
      clear hK hGc hGh
      clear K Gc Gh
      repeat refine pw_seq ?_
      refine pw_joinK (nx := nx) (σ := Int) (fun z => 0 ≤ z ∧ z ≤ 9223372036854775807) (fun z => [(10, L vs), (11, I z)]) (fun _ => S) (fun z => []) ?_ ?_
      · by_cases h1 : z < 0
        · have q1 : IntKind.i64.wrap (z + 1) = z + 1 := wr _ (by omega) (by omega)
          have q2 : IntKind.i64.wrap (-(z + 1)) = -(z + 1) := wr _ (by omega) (by omega)
          repeat refine pw_seq ?_
          refine pw_ct (by simp [h1]) ?_
          repeat refine pw_seq ?_
          refine pw_N [] (by rfl) (by rfl) fun K Gc Gh hK hGc hGh X hX0 hX => ?_
          simp -implicitDefEqProofs [hX0, hX, q1, q2]
          try clear hX0 hX X
          intros
          refine hK _ _ _ ?_
          clear hK hGc hGh
          clear K Gc Gh
          exact at_mk (-(z + 1)) [] (by omega) (by simp) rfl rfl
        · repeat refine pw_seq ?_
          refine pw_cf (by simp; omega) ?_
          refine pw_skip ?_
          exact at_mk z [] (by omega) (by simp) rfl rfl
      intro z hz
      have hvl' : ¬ vs.length = 0 := by omega
      obtain ⟨k, hk⟩ : ∃ k : Nat, z.tmod (vs.length : Int) = k := ⟨(z.tmod vs.length).toNat, by have := Int.tmod_nonneg (b := (vs.length : Int)) (a := z) hz.1; omega⟩
      have hkl : k < vs.length := by have := Int.tmod_lt_of_pos (a := z) (b := (vs.length : Int)) (by omega); omega
      obtain ⟨v, tl, a1, a2, a3, e0⟩ := el1 rfl vs k hkl
      repeat refine pw_seq ?_
      refine pw_N [] (by rfl) (by rfl) fun K Gc Gh hK hGc hGh X hX0 hX => ?_
      simp -implicitDefEqProofs [hX0, hX, hk, hkl, e0, h0]
      try clear hX0 hX X
      intros
      refine hK _ _ _ ?_
      clear hK hGc hGh
      clear K Gc Gh
      repeat refine pw_seq ?_
      exact pw_ret ⟨_, S, (by simp; rfl), ⟨⟨v, true, by simp [oneOf], fun _ => hg v (List.mem_of_getElem? a1)⟩, rfl⟩, ext_kill0 hd⟩

end Go.Proofs.YtlkcdaeknioanaaGreat.Pv
