/- The laws SavingsPairs and SavingsDown: what they compute. -/
import Derived.Test.YtpifkibgplnnkaaVn
import Derived.Test.YtpifkibgplnnkaaVi
import Derived.Test.YtpifkibgplnnkaaPl
namespace Go.Proofs.Ytpifkibgplnnkaa.Pv
open Go Hp

theorem goodI_arc (x : Inst) : ArcOk (goodI x) := by
  refine arcOk_of fun row hr d hd => ?_
  simp only [goodI, List.mem_map] at hr
  obtain ⟨a, _, rfl⟩ := hr
  unfold goodRow at hd
  obtain ⟨b, _, rfl⟩ := List.mem_map.1 hd
  split
  · have := rnd_le (arc x a b) 0 60 (by omega); omega
  · omega

theorem goods_small {n : Int} {g : List Stop} (h : Goods n g) (hn : n ≤ 1048576) : ∀ s ∈ g, small s.c := fun s hs => by
  have := h.each s hs; unfold small; omega

theorem pair_small {x : Inst} {g : List Stop} (hs : ∀ s ∈ g, small s.c) {p : Pr} (hp : p ∈ pairsP x (g.map (·.c))) : small p.a ∧ small p.b ∧ p.s = savZ x p.a p.b := by
  have h := prsAll_mem.1 ((pairsP_perm x _).subset hp)
  obtain ⟨h1, h2, _, h4⟩ := h
  obtain ⟨s, hs1, e1⟩ := List.mem_map.1 h1
  obtain ⟨t, ht1, e2⟩ := List.mem_map.1 h2
  exact ⟨e1 ▸ hs s hs1, e2 ▸ hs t ht1, h4⟩

set_option maxRecDepth 20000 in
set_option maxHeartbeats 800000 in
theorem savingsPairs_ok (x : Inst) (l : List Stop) (hx : InstOk x) (hl : l.length ≤ 9223372036854775807) (hs : ∀ s ∈ l, StopOk s) : Pure Try.prog 7 [.agg (instL x), L l] (B true) := by
  have hc := goodI_cust' x
  have hg := goods_of (n := (goodI x).cust.length) hs
  have hS := goodS_ok (goodI x) l hl hc hs
  have hA := goodI_arc x
  have hG := goodI_ok x hx
  generalize goodI x = y at *
  generalize goodL (y.cust.length) [] l = g at *
  have hsm := goods_small hg (by omega)
  have hg6 := hg.len
  have hpl := pairsP_le (x := y) hg.nd (by simp; omega)
  have hP := pairs_ok y g hA (by omega) hsm hg.nd
  have hR := pairsR_ok y g hA (by omega) hsm hg.nd
  have hps : ∀ p ∈ pairsP y (g.map (·.c)), small p.a ∧ small p.b ∧ p.s = savZ y p.a p.b := fun p hp => pair_small hsm hp
  generalize pairsP y (g.map (·.c)) = ps at *
  refine pure_enter Try.func7 (by rfl) rfl Try.ntmps7 (congrArg Array.toList Try.results7) (by simp) fun S nx hd => ?_
  repeat refine pw_seq ?_
  refine pw_N [] (by rfl) (by rfl) fun K Gc Gh hK hGc hGh X hX0 hX => ?_
  simp -implicitDefEqProofs [hX0, hX]
  try clear hX0 hX X
  intro v0
  refine hK _ _ _ ?_
  clear hK hGc hGh
  clear K Gc Gh
  repeat refine pw_seq ?_
  refine pw_N [] (by rfl) (by rfl) fun K Gc Gh hK hGc hGh X hX0 hX => ?_
  simp -implicitDefEqProofs [hX]
  try clear hX0 hX X
  refine hGc _ _ _ _ _ _ _ fun hsuf => ((hG _).mono ?_).v
  rintro _ _ ⟨rfl, rfl⟩
  refine ⟨_, _, rfl, ?_⟩
  clear hGc hGh
  clear Gc Gh
  refine xs_go hsuf (D := []) (by rfl) fun Gc Gh hGc hGh X hX0 hX => ?_
  simp -implicitDefEqProofs [hX0, hX]
  try clear hX0 hX X
  intro v1
  intros
  refine hK _ _ _ ?_
  clear hK hGc hGh
  clear K Gc Gh
  repeat refine pw_seq ?_
  refine pw_N [] (by rfl) (by rfl) fun K Gc Gh hK hGc hGh X hX0 hX => ?_
  simp -implicitDefEqProofs [hX]
  try clear hX0 hX X
  refine hGc _ _ _ _ _ _ _ fun hsuf => ((hS _).mono ?_).v
  rintro _ _ ⟨rfl, rfl⟩
  refine ⟨_, _, rfl, ?_⟩
  clear hGc hGh
  clear Gc Gh
  refine xs_go hsuf (D := []) (by rfl) fun Gc Gh hGc hGh X hX0 hX => ?_
  simp -implicitDefEqProofs [hX0, hX]
  try clear hX0 hX X
  intros
  refine hK _ _ _ ?_
  clear hK hGc hGh
  clear K Gc Gh
  repeat refine pw_seq ?_
  refine pw_N [] (by rfl) (by rfl) fun K Gc Gh hK hGc hGh X hX0 hX => ?_
  simp -implicitDefEqProofs [hX]
  try clear hX0 hX X
  refine hGc _ _ _ _ _ _ _ fun hsuf => ((hP _).mono ?_).v
  rintro _ _ ⟨rfl, rfl⟩
  refine ⟨_, _, rfl, ?_⟩
  clear hGc hGh
  clear Gc Gh
  refine xs_go hsuf (D := []) (by rfl) fun Gc Gh hGc hGh X hX0 hX => ?_
  simp -implicitDefEqProofs [hX0, hX]
  try clear hX0 hX X
  intros
  refine hK _ _ _ ?_
  clear hK hGc hGh
  clear K Gc Gh
  repeat refine pw_seq ?_
  refine pw_N [] (by rfl) (by rfl) fun K Gc Gh hK hGc hGh X hX0 hX => ?_
  simp -implicitDefEqProofs [hX]
  try clear hX0 hX X
  refine hGc _ _ _ _ _ _ _ fun hsuf => ((hR _).mono ?_).v
  rintro _ _ ⟨rfl, rfl⟩
  refine ⟨_, _, rfl, ?_⟩
  clear hGc hGh
  clear Gc Gh
  refine xs_go hsuf (D := []) (by rfl) fun Gc Gh hGc hGh X hX0 hX => ?_
  simp -implicitDefEqProofs [hX0, hX]
  try clear hX0 hX X
  intros
  refine hK _ _ _ ?_
  clear hK hGc hGh
  clear K Gc Gh
  repeat refine pw_seq ?_
  refine pw_N [] (by rfl) (by rfl) fun K Gc Gh hK hGc hGh X hX0 hX => ?_
  simp -implicitDefEqProofs [hX0, hX]
  try clear hX0 hX X
  intros
  refine hK _ _ _ ?_
  clear hK hGc hGh
  clear K Gc Gh
  repeat refine pw_seq ?_
  refine pw_cf rfl ?_
  refine pw_skip ?_
  repeat refine pw_seq ?_
  refine pw_N [] (by rfl) (by rfl) fun K Gc Gh hK hGc hGh X hX0 hX => ?_
  simp -implicitDefEqProofs [hX0, hX]
  try clear hX0 hX X
  intros
  refine hK _ _ _ ?_
  clear hK hGc hGh
  clear K Gc Gh
  repeat refine pw_seq ?_
  refine pw_block (pw_loopL (fun i : Nat => i ≤ ps.length) (fun i => [(5, .ptr (nx + 1) v1 0), (7, L ps), (8, L ps), (9, I i)]) (fun _ => [.cells v0 31 (instL x), .cells v1 31 (instL y)]) (fun i => ps.length - i) 0 [] (by simp) (by simp) (by simp) ?_)
  rintro i hi
  repeat refine pw_seq ?_
  refine pw_N [] (by rfl) (by rfl) fun K Gc Gh hK hGc hGh X hX0 hX => ?_
  simp -implicitDefEqProofs [hX0, hX]
  try clear hX0 hX X
  intros
  refine hK _ _ _ ?_
  clear hK hGc hGh
  clear K Gc Gh
  repeat refine pw_seq ?_
  refine pw_cond rfl (fun hq => ?_) (fun hq => ?_)
  · simp at hq
    obtain ⟨p, tl, a1, a2, a3, e1, e0⟩ := el 3 rfl ps i hq
    obtain ⟨s1, s2, s3⟩ := hps p (List.mem_of_getElem? a1)
    refine pw_skip (pw_seq (pw_block ?_))
    repeat refine pw_seq ?_
    refine pw_Y (some [nx + 1]) (Row.pures [0, 1, 2, 3, 4, 5, 6, 7, 8, 9, 10, 11, 12, 13, 14, 15, 16, 17, 18, 19, 20, 21, 22, 23, 24, 25, 26, 27, 28] .done) mixed (by rfl) (by rfl) (by rfl) fun K Gp Gc Gh hK hGp hGc hGh X hX0 hX1 hX2 hX => ?_
    simp -implicitDefEqProofs [hX2, e0, hq]
    try clear hX0 hX1 hX2 hX X
    refine hGp _ _ _ _ _ _ _ _ (savesP_ok y p.a p.b hA s1 s2) ?_
    clear hGp hGc hGh
    clear Gp Gc Gh
    refine px_go fun Gp Gc Gh hGp hGc hGh X hX0 hX1 hX2 hX => ?_
    simp -implicitDefEqProofs [hX0, hX2, e0, hq, s3]
    try clear hX0 hX1 hX2 hX X
    refine hK _ _ _ ?_
    clear hK hGp hGc hGh
    clear K Gp Gc Gh
    repeat refine pw_seq ?_
    refine pw_cf rfl ?_
    refine pw_skip ?_
    repeat refine pw_seq ?_
    refine pw_N [] (by rfl) (by rfl) fun K Gc Gh hK hGc hGh X hX0 hX => ?_
    simp -implicitDefEqProofs [hX0, hX]
    try clear hX0 hX X
    intros
    refine hK _ _ _ ?_
    clear hK hGc hGh
    clear K Gc Gh
    exact again_mk (i + 1) [] hq (by omega) (by simp [wrN i (by omega)]) rfl (by simp)
  · simp at hq
    refine pw_exit ?_
    repeat refine pw_seq ?_
    refine pw_N [] (by rfl) (by rfl) fun K Gc Gh hK hGc hGh X hX0 hX => ?_
    simp -implicitDefEqProofs [hX]
    try clear hX0 hX X
    refine hGc _ _ _ _ _ _ _ fun hsuf => ((lives13_ok _).mono ?_).v
    rintro _ _ ⟨rfl, rfl⟩
    refine ⟨_, _, rfl, ?_⟩
    clear hGc hGh
    clear Gc Gh
    refine xs_go hsuf (D := []) (by rfl) fun Gc Gh hGc hGh X hX0 hX => ?_
    simp -implicitDefEqProofs [hX0, hX]
    try clear hX0 hX X
    intros
    refine hK _ _ _ ?_
    clear hK hGc hGh
    clear K Gc Gh
    repeat refine pw_seq ?_
    exact pw_ret (ret_pure hd rfl rfl)

set_option maxRecDepth 20000 in
set_option maxHeartbeats 1600000 in
theorem savingsDown_ok (x : Inst) (l : List Stop) (hx : InstOk x) (hl : l.length ≤ 9223372036854775807) (hs : ∀ s ∈ l, StopOk s) : Pure Try.prog 8 [.agg (instL x), L l] (B true) := by
  have hc := goodI_cust' x
  have hg := goods_of (n := (goodI x).cust.length) hs
  have hS := goodS_ok (goodI x) l hl hc hs
  have hA := goodI_arc x
  have hG := goodI_ok x hx
  generalize goodI x = y at *
  generalize goodL (y.cust.length) [] l = g at *
  have hsm := goods_small hg (by omega)
  have hg6 := hg.len
  have hlen := pairsP_len (x := y) hg.nd
  have hpl := pairsP_le (x := y) hg.nd (by simp; omega)
  have hP := pairs_ok y g hA (by omega) hsm hg.nd
  have hsd := pairsP_sd (x := y) hg.nd
  have hne : ∀ p ∈ pairsP y (g.map (·.c)), p.a ≠ p.b := fun p hp => by
    have h := prsAll_mem.1 ((pairsP_perm y _).subset hp)
    exact fun e => h.2.2.1 e.symm
  have hpab : ∀ p ∈ pairsP y (g.map (·.c)), p.s = savZ y p.a p.b := fun p hp => (prsAll_mem.1 ((pairsP_perm y _).subset hp)).2.2.2
  simp only [List.length_map] at hlen
  generalize pairsP y (g.map (·.c)) = ps at *
  have hdown : ∀ (i j : Nat) p q, i < j → ps[i]? = some p → ps[j]? = some q → ¬ p.s < q.s ∧ ¬ (p.a = q.a ∧ p.b = q.b) := by
    intro i j p q hij h1 h2
    have hp := List.mem_of_getElem? h1
    have hq := List.mem_of_getElem? h2
    obtain ⟨k1, e1⟩ := List.getElem?_eq_some_iff.1 h1
    obtain ⟨k2, e2⟩ := List.getElem?_eq_some_iff.1 h2
    have h3 := List.pairwise_iff_getElem.1 hsd i j k1 k2 hij
    rw [e1, e2] at h3
    constructor
    · intro h4
      unfold plt at h3
      rw [if_neg (by omega)] at h3
      simp at h3; omega
    · rintro ⟨h4, h5⟩
      have h6 := hpab p hp
      have h7 := hpab q hq
      have h8 : p = q := by
        cases p; cases q
        simp only at h4 h5 h6 h7
        subst h4; subst h5
        simp [h6, h7]
      rw [h8, plt_str.irr] at h3; cases h3
  obtain ⟨n, hn⟩ : ∃ n, n = g.length := ⟨_, rfl⟩
  rw [← hn] at hlen hg6
  have w1 : IntKind.i64.wrap ((n : Int) * (n : Int)) = (n : Int) * n := wr _ (by have : (0 : Int) ≤ (n : Int) * n := Int.mul_nonneg (by omega) (by omega); omega) (by have : (n : Int) * n ≤ 6 * 6 := Int.mul_le_mul (by omega) (by omega) (by omega) (by omega); omega)
  have hnn : (n : Int) * n - n = (ps.length : Nat) := by
    rw [hlen]
    cases n with
    | zero => simp
    | succ m => simp only [Nat.add_sub_cancel]; push_cast; rw [Int.mul_add]; omega
  have w2 : IntKind.i64.wrap ((ps.length : Nat) : Int) = (ps.length : Nat) := wr _ (by omega) (by omega)
  refine pure_enter Try.func8 (by rfl) rfl Try.ntmps8 (congrArg Array.toList Try.results8) (by simp) fun S nx hd => ?_
  repeat refine pw_seq ?_
  refine pw_N [] (by rfl) (by rfl) fun K Gc Gh hK hGc hGh X hX0 hX => ?_
  simp -implicitDefEqProofs [hX0, hX]
  try clear hX0 hX X
  intro v0
  refine hK _ _ _ ?_
  clear hK hGc hGh
  clear K Gc Gh
  repeat refine pw_seq ?_
  refine pw_N [] (by rfl) (by rfl) fun K Gc Gh hK hGc hGh X hX0 hX => ?_
  simp -implicitDefEqProofs [hX]
  try clear hX0 hX X
  refine hGc _ _ _ _ _ _ _ fun hsuf => ((hG _).mono ?_).v
  rintro _ _ ⟨rfl, rfl⟩
  refine ⟨_, _, rfl, ?_⟩
  clear hGc hGh
  clear Gc Gh
  refine xs_go hsuf (D := []) (by rfl) fun Gc Gh hGc hGh X hX0 hX => ?_
  simp -implicitDefEqProofs [hX0, hX]
  try clear hX0 hX X
  intro v1
  intros
  refine hK _ _ _ ?_
  clear hK hGc hGh
  clear K Gc Gh
  repeat refine pw_seq ?_
  refine pw_N [] (by rfl) (by rfl) fun K Gc Gh hK hGc hGh X hX0 hX => ?_
  simp -implicitDefEqProofs [hX]
  try clear hX0 hX X
  refine hGc _ _ _ _ _ _ _ fun hsuf => ((hS _).mono ?_).v
  rintro _ _ ⟨rfl, rfl⟩
  refine ⟨_, _, rfl, ?_⟩
  clear hGc hGh
  clear Gc Gh
  refine xs_go hsuf (D := []) (by rfl) fun Gc Gh hGc hGh X hX0 hX => ?_
  simp -implicitDefEqProofs [hX0, hX]
  try clear hX0 hX X
  intros
  refine hK _ _ _ ?_
  clear hK hGc hGh
  clear K Gc Gh
  repeat refine pw_seq ?_
  refine pw_N [] (by rfl) (by rfl) fun K Gc Gh hK hGc hGh X hX0 hX => ?_
  simp -implicitDefEqProofs [hX]
  try clear hX0 hX X
  refine hGc _ _ _ _ _ _ _ fun hsuf => ((hP _).mono ?_).v
  rintro _ _ ⟨rfl, rfl⟩
  refine ⟨_, _, rfl, ?_⟩
  clear hGc hGh
  clear Gc Gh
  refine xs_go hsuf (D := []) (by rfl) fun Gc Gh hGc hGh X hX0 hX => ?_
  simp -implicitDefEqProofs [hX0, hX]
  try clear hX0 hX X
  intros
  refine hK _ _ _ ?_
  clear hK hGc hGh
  clear K Gc Gh
  repeat refine pw_seq ?_
  refine pw_N [] (by rfl) (by rfl) fun K Gc Gh hK hGc hGh X hX0 hX => ?_
  simp -implicitDefEqProofs [hX0, hX]
  try clear hX0 hX X
  intros
  refine hK _ _ _ ?_
  clear hK hGc hGh
  clear K Gc Gh
  repeat refine pw_seq ?_
  refine pw_N [] (by rfl) (by rfl) fun K Gc Gh hK hGc hGh X hX0 hX => ?_
  simp -implicitDefEqProofs [hX0, hX, ← hn, w1, hnn, w2]
  try clear hX0 hX X
  intros
  refine hK _ _ _ ?_
  clear hK hGc hGh
  clear K Gc Gh
  repeat refine pw_seq ?_
  refine pw_cf rfl ?_
  refine pw_skip ?_
  repeat refine pw_seq ?_
  refine pw_N [] (by rfl) (by rfl) fun K Gc Gh hK hGc hGh X hX0 hX => ?_
  simp -implicitDefEqProofs [hX0, hX]
  try clear hX0 hX X
  intros
  refine hK _ _ _ ?_
  clear hK hGc hGh
  clear K Gc Gh
  repeat refine pw_seq ?_
  refine pw_block (pw_loopL (fun i : Nat => i ≤ ps.length) (fun i => [(7, L ps), (9, I i)]) (fun _ => []) (fun i => ps.length - i) 0 [_, _] (by simp) (by simp) (by simp; exact ⟨rfl, rfl⟩) ?_)
  rintro i hi
  repeat refine pw_seq ?_
  refine pw_N [] (by rfl) (by rfl) fun K Gc Gh hK hGc hGh X hX0 hX => ?_
  simp -implicitDefEqProofs [hX0, hX]
  try clear hX0 hX X
  intros
  refine hK _ _ _ ?_
  clear hK hGc hGh
  clear K Gc Gh
  repeat refine pw_seq ?_
  refine pw_cond rfl (fun hq => ?_) (fun hq => ?_)
  · simp at hq
    obtain ⟨p, tl, a1, a2, a3, e1, e0⟩ := el 3 rfl ps i hq
    have hpne := hne p (List.mem_of_getElem? a1)
    refine pw_skip (pw_seq (pw_block ?_))
    refine pw_seq ?_
    refine pw_joinK (nx := nx) (σ := Unit) (fun _ => True) (fun _ => [(7, L ps), (9, I i)]) (fun _ => S) (fun _ => []) ?_ ?_
    · by_cases h0 : 0 < i
      · obtain ⟨j, rfl⟩ : ∃ j, i = j + 1 := ⟨i - 1, by omega⟩
        obtain ⟨q, tl2, b1, b2, b3, f1, f0⟩ := el 3 rfl ps j (by omega)
        have wj : IntKind.i64.wrap (j : Int) = j := wr _ (by omega) (by omega)
        have h1 : ¬ q.s < p.s := (hdown j (j + 1) q p (by omega) b1 a1).1
        have h2 : (0 : Int) < (j : Int) + 1 := by omega
        have h3 : 0 ≤ (j : Int) + 1 := by omega
        have h4 : (j : Int) < ps.length := by omega
        have h5 : (j : Int) + 1 < ps.length := by omega
        repeat refine pw_seq ?_
        refine pw_Y none (Row.pures [0, 1, 2, 3, 4, 5, 6, 7, 8, 9, 10, 11, 12, 13, 14, 15, 16, 17, 18, 19, 20, 21, 22, 23, 24, 25, 26, 27, 28] .done) mixed (by rfl) (by rfl) (by rfl) fun K Gp Gc Gh hK hGp hGc hGh X hX0 hX1 hX2 hX => ?_
        simp -implicitDefEqProofs [hX0, hX2, e0, f0, hpne, wj, h1, h2, h3, h4, h5]
        try clear hX0 hX1 hX2 hX X
        intros
        refine hK _ _ _ ?_
        clear hK hGp hGc hGh
        clear K Gp Gc Gh
        repeat refine pw_seq ?_
        refine pw_cf rfl ?_
        refine pw_skip ?_
        exact at_mk () [] trivial (by simp) rfl (by simp)
      · obtain rfl : i = 0 := by omega
        simp only [Nat.zero_mul, Nat.zero_add] at e1 e0
        repeat refine pw_seq ?_
        refine pw_Y none (Row.pures [0, 1, 2, 3, 4, 5, 6, 7, 8, 9, 10, 11, 12, 13, 14, 15, 16, 17, 18, 19, 20, 21, 22, 23, 24, 25, 26, 27, 28] .done) mixed (by rfl) (by rfl) (by rfl) fun K Gp Gc Gh hK hGp hGc hGh X hX0 hX1 hX2 hX => ?_
        simp -implicitDefEqProofs [hX0, hX2, e1, hq, hpne, undef]
        try clear hX0 hX1 hX2 hX X
        intros
        refine hK _ _ _ ?_
        clear hK hGp hGc hGh
        clear K Gp Gc Gh
        repeat refine pw_seq ?_
        refine pw_cf rfl ?_
        refine pw_skip ?_
        exact at_mk () [] trivial (by simp) rfl (by simp)
    intro _ _
    repeat refine pw_seq ?_
    refine pw_N [] (by rfl) (by rfl) fun K Gc Gh hK hGc hGh X hX0 hX => ?_
    simp -implicitDefEqProofs [hX0, hX]
    try clear hX0 hX X
    intros
    refine hK _ _ _ ?_
    clear hK hGc hGh
    clear K Gc Gh
    repeat refine pw_seq ?_
    refine pw_block (pw_loopL (fun k : Nat => k ≤ i) (fun k => [(7, L ps), (9, I i), (10, I k)]) (fun _ => []) (fun k => i - k) 0 [] (by simp) (by simp) (by simp) ?_)
    rintro k hk
    repeat refine pw_seq ?_
    refine pw_N [] (by rfl) (by rfl) fun K Gc Gh hK hGc hGh X hX0 hX => ?_
    simp -implicitDefEqProofs [hX0, hX]
    try clear hX0 hX X
    intros
    refine hK _ _ _ ?_
    clear hK hGc hGh
    clear K Gc Gh
    repeat refine pw_seq ?_
    refine pw_cond rfl (fun hq2 => ?_) (fun hq2 => ?_)
    · simp at hq2
      obtain ⟨q, tl2, b1, b2, b3, f1, f0⟩ := el 3 rfl ps k (by omega)
      have hno := (hdown k i q p hq2 b1 a1).2
      have hkl : (k : Int) < ps.length := by omega
      have hil : (i : Int) < ps.length := by omega
      refine pw_skip (pw_seq (pw_block ?_))
      by_cases h1 : q.a = p.a
      · have h2 : ¬ q.b = p.b := fun e => hno ⟨h1, e⟩
        repeat refine pw_seq ?_
        refine pw_Y none (Row.pures [0, 1, 2, 3, 4, 5, 6, 7, 8, 9, 10, 11, 12, 13, 14, 15, 16, 17, 18, 19, 20, 21, 22, 23] .done) mixed (by rfl) (by rfl) (by rfl) fun K Gp Gc Gh hK hGp hGc hGh X hX0 hX1 hX2 hX => ?_
        simp -implicitDefEqProofs [hX0, hX2, e0, f0, hkl, hil, h1, h2]
        try clear hX0 hX1 hX2 hX X
        intros
        refine hK _ _ _ ?_
        clear hK hGp hGc hGh
        clear K Gp Gc Gh
        repeat refine pw_seq ?_
        refine pw_cf rfl ?_
        refine pw_skip ?_
        repeat refine pw_seq ?_
        refine pw_N [] (by rfl) (by rfl) fun K Gc Gh hK hGc hGh X hX0 hX => ?_
        simp -implicitDefEqProofs [hX0, hX]
        try clear hX0 hX X
        intros
        refine hK _ _ _ ?_
        clear hK hGc hGh
        clear K Gc Gh
        exact again_mk (k + 1) [] (by omega) (by omega) (by simp [wrN k (by omega)]) rfl (by simp)
      · repeat refine pw_seq ?_
        refine pw_Y none (Row.pures [0, 1, 2, 3, 4, 5, 6, 7, 8, 9, 10, 11, 12, 13, 14, 15, 16, 17, 18, 19, 20, 21, 22, 23] .done) mixed (by rfl) (by rfl) (by rfl) fun K Gp Gc Gh hK hGp hGc hGh X hX0 hX1 hX2 hX => ?_
        simp -implicitDefEqProofs [hX0, hX2, e0, f0, hkl, hil, h1, undef]
        try clear hX0 hX1 hX2 hX X
        intros
        refine hK _ _ _ ?_
        clear hK hGp hGc hGh
        clear K Gp Gc Gh
        repeat refine pw_seq ?_
        refine pw_cf rfl ?_
        refine pw_skip ?_
        repeat refine pw_seq ?_
        refine pw_N [] (by rfl) (by rfl) fun K Gc Gh hK hGc hGh X hX0 hX => ?_
        simp -implicitDefEqProofs [hX0, hX]
        try clear hX0 hX X
        intros
        refine hK _ _ _ ?_
        clear hK hGc hGh
        clear K Gc Gh
        exact again_mk (k + 1) [] (by omega) (by omega) (by simp [wrN k (by omega)]) rfl (by simp)
    · simp at hq2
      refine pw_exit ?_
      repeat refine pw_seq ?_
      refine pw_N [] (by rfl) (by rfl) fun K Gc Gh hK hGc hGh X hX0 hX => ?_
      simp -implicitDefEqProofs [hX0, hX]
      try clear hX0 hX X
      intros
      refine hK _ _ _ ?_
      clear hK hGc hGh
      clear K Gc Gh
      exact again_mk (i + 1) [] hq (by omega) (by simp [wrN i (by omega)]) rfl (by simp)
  · simp at hq
    refine pw_exit ?_
    repeat refine pw_seq ?_
    refine pw_N [] (by rfl) (by rfl) fun K Gc Gh hK hGc hGh X hX0 hX => ?_
    simp -implicitDefEqProofs [hX]
    try clear hX0 hX X
    refine hGc _ _ _ _ _ _ _ fun hsuf => ((lives13_ok _).mono ?_).v
    rintro _ _ ⟨rfl, rfl⟩
    refine ⟨_, _, rfl, ?_⟩
    clear hGc hGh
    clear Gc Gh
    refine xs_go hsuf (D := []) (by rfl) fun Gc Gh hGc hGh X hX0 hX => ?_
    simp -implicitDefEqProofs [hX0, hX]
    try clear hX0 hX X
    intros
    refine hK _ _ _ ?_
    clear hK hGc hGh
    clear K Gc Gh
    repeat refine pw_seq ?_
    exact pw_ret (ret_pure hd rfl rfl)

end Go.Proofs.Ytpifkibgplnnkaa.Pv
