/- The law SavingsKeeps: what it computes. -/
import Derived.Test.YtpifkibgplnnkaaVo
import Derived.Test.YtpifkibgplnnkaaVq
namespace Go.Proofs.Ytpifkibgplnnkaa.Pv
open Go Hp

theorem arcOk_veh {x : Inst} (h : ArcOk x) (v : Int) : ArcOk { x with veh := v } := h
theorem count_snoc (l : List Stop) (t s : Stop) : (l ++ [t]).count s = l.count s + (if t = s then 1 else 0) := by
  rw [List.count_append]
  by_cases h : t = s
  · subst h; simp
  · simp [h]

theorem wayZ_nonneg {x : Inst} (h : ArcOk x) (l : List Int) : 0 ≤ wayZ x l := by
  unfold wayZ
  split
  · omega
  · have : ∀ (l : List Int) (k : Int), 0 ≤ wayS x k l := by
      intro l
      induction l with
      | nil => intro k; exact (h k 0).1
      | cons c l ih => intro k; have h1 := (h k (c + 1)).1; have h2 := ih (c + 1); simp only [wayS]; omega
    exact this l 0
theorem costZ_nonneg {x : Inst} (h : ArcOk x) (d : Day) : 0 ≤ costZ x d := by
  unfold costZ
  induction d with
  | nil => simp
  | cons t d ih => have := wayZ_nonneg h (t.map (·.c)); simp only [List.map_cons, List.sum_cons]; omega
theorem count_one {s : Stop} : ∀ (l : List Stop), l.Nodup → s ∈ l → l.count s = 1
  | [], _, h => by cases h
  | t :: l, hn, h => by
    have hn' := List.nodup_cons.1 hn
    rw [List.count_cons]
    by_cases e : t = s
    · subst e
      simp [List.count_eq_zero_of_not_mem hn'.1]
    · rcases List.mem_cons.1 h with h | h
      · exact absurd h.symm e
      · simp [count_one l hn'.2 h, e]

set_option maxRecDepth 20000 in
set_option maxHeartbeats 3200000 in
theorem savingsKeeps_ok (x : Inst) (l : List Stop) (hx : InstOk x) (hl : l.length ≤ 9223372036854775807) (hs : ∀ s ∈ l, StopOk s) : Pure Try.prog 5 [.agg (instL x), L l] (B true) := by
  have hc := goodI_cust' x
  have hg := goods_of (n := (goodI x).cust.length) hs
  have hS := goodS_ok (goodI x) l hl hc hs
  have hA0 := goodI_arc x
  have hG := goodI_ok x hx
  generalize goodI x = y0 at *
  generalize goodL (y0.cust.length) [] l = g at *
  have hsm := goods_small hg (by omega)
  have hg6 := hg.len
  obtain ⟨y, hy⟩ : ∃ y : Inst, y = { y0 with veh := g.length } := ⟨_, rfl⟩
  have hA : ArcOk y := by rw [hy]; exact hA0
  have hyc : y.cust = y0.cust := by rw [hy]
  have hyv : y.veh = g.length := by rw [hy]
  have hyL : instL y = [I y0.days, I (g.length : Nat), I y0.cap, I y0.len, L y0.cust, L y0.dist] := by rw [hy]
  have hJ := join_all_ok y g hA (by rw [hyc]; exact hc) (by omega) hsm hg.nd
  obtain ⟨j1, j2, j3, j4⟩ := joined (x := y) hg.nd hyv
  have hgn : g.Nodup := (List.pairwise_map.1 hg.nd).imp fun h e => h (by rw [e])
  generalize joinP y g = d at *
  have hdl : d.flatten.length = g.length := j1.length_eq
  have hdn : d.length ≤ 6 := by
    have := flat_len_ge d j2; omega
  have htl : ∀ t ∈ d, t.length ≤ 6 := fun t ht => by
    have := (tour_sub ht).length_le; omega
  have htm : ∀ t ∈ d, ∀ s ∈ t, s ∈ g := fun t ht s hst => j1.subset (List.mem_flatten.2 ⟨t, ht, hst⟩)
  have hcnt : ∀ s ∈ g, d.flatten.count s = 1 := fun s hsg => by rw [j1.count_eq]; exact count_one g hgn hsg
  have hStops := stopsR_ok d (by omega) (by omega)
  have hCost := costR_ok y d ⟨by omega, fun t ht => by have := htl t ht; omega, fun t ht s hst => hsm s (htm t ht s hst)⟩
  have hway : ∀ s ∈ g, 0 ≤ wayZ y [s.c] ∧ wayZ y [s.c] ≤ 4294967296 := fun s hsg => by
    have h1 := hA 0 (s.c + 1)
    have h2 := hA (s.c + 1) 0
    have : wayZ y [s.c] = arc y 0 (s.c + 1) + arc y (s.c + 1) 0 := by simp [wayZ, wayS]
    omega
  have hap : ∀ k, k ≤ g.length → 0 ≤ apartZ y (g.take k) ∧ apartZ y (g.take k) ≤ 4294967296 * k := by
    intro k
    induction k with
    | zero => intro _; simp [apartZ]
    | succ k ih =>
      intro hk
      have h1 := ih (by omega)
      have h2 : g.take (k + 1) = g.take k ++ [g[k]] := List.take_succ_eq_append_getElem (by omega)
      have h3 := hway g[k] (List.getElem_mem (by omega))
      rw [h2, apartZ_snoc]
      push_cast
      omega
  refine pure_enter Try.func5 (by rfl) rfl Try.ntmps5 (congrArg Array.toList Try.results5) (by simp) fun S nx hd => ?_
  repeat refine pw_seq ?_
  refine pw_N [] (by rfl) (by rfl) fun K Gc Gh hK hGc hGh X hX0 hX => ?_
  simp -implicitDefEqProofs [hX0, hX]
  try clear hX0 hX X
  intro v0
  refine hK _ _ _ ?_
  clear hK hGc hGh
  clear K Gc Gh
  repeat refine pw_seq ?_
  refine pw_N [] (by rfl) (by rfl) fun K Gc Gh hK hGc hGh X hX0 hX => ?_
  simp -implicitDefEqProofs [hX]
  try clear hX0 hX X
  refine hGc _ _ _ _ _ _ _ fun hsuf => ((hG _).mono ?_).v
  rintro _ _ ⟨rfl, rfl⟩
  refine ⟨_, _, rfl, ?_⟩
  clear hGc hGh
  clear Gc Gh
  refine xs_go hsuf (D := []) (by rfl) fun Gc Gh hGc hGh X hX0 hX => ?_
  simp -implicitDefEqProofs [hX0, hX]
  try clear hX0 hX X
  intro v1
  intros
  refine hK _ _ _ ?_
  clear hK hGc hGh
  clear K Gc Gh
  repeat refine pw_seq ?_
  refine pw_N [] (by rfl) (by rfl) fun K Gc Gh hK hGc hGh X hX0 hX => ?_
  simp -implicitDefEqProofs [hX]
  try clear hX0 hX X
  refine hGc _ _ _ _ _ _ _ fun hsuf => ((hS _).mono ?_).v
  rintro _ _ ⟨rfl, rfl⟩
  refine ⟨_, _, rfl, ?_⟩
  clear hGc hGh
  clear Gc Gh
  refine xs_go hsuf (D := []) (by rfl) fun Gc Gh hGc hGh X hX0 hX => ?_
  simp -implicitDefEqProofs [hX0, hX]
  try clear hX0 hX X
  intros
  refine hK _ _ _ ?_
  clear hK hGc hGh
  clear K Gc Gh
  repeat refine pw_seq ?_
  refine pw_N [] (by rfl) (by rfl) fun K Gc Gh hK hGc hGh X hX0 hX => ?_
  simp -implicitDefEqProofs [hX0, hX]
  try clear hX0 hX X
  intros
  refine hK _ _ _ ?_
  clear hK hGc hGh
  clear K Gc Gh
  rw [← hyL]
  repeat refine pw_seq ?_
  refine pw_N [] (by rfl) (by rfl) fun K Gc Gh hK hGc hGh X hX0 hX => ?_
  simp -implicitDefEqProofs [hX]
  try clear hX0 hX X
  refine hGc _ _ _ _ _ _ _ fun hsuf => ((hJ _).mono ?_).v
  rintro _ _ ⟨rfl, rfl⟩
  refine ⟨_, _, rfl, ?_⟩
  clear hGc hGh
  clear Gc Gh
  refine xs_go hsuf (D := []) (by rfl) fun Gc Gh hGc hGh X hX0 hX => ?_
  simp -implicitDefEqProofs [hX0, hX]
  try clear hX0 hX X
  intro v2
  intros
  refine hK _ _ _ ?_
  clear hK hGc hGh
  clear K Gc Gh
  repeat refine pw_seq ?_
  refine pw_N [] (by rfl) (by rfl) fun K Gc Gh hK hGc hGh X hX0 hX => ?_
  simp -implicitDefEqProofs [hX]
  try clear hX0 hX X
  refine hGc _ _ _ _ _ _ _ fun hsuf => ((hStops _).mono ?_).v
  rintro _ _ ⟨rfl, rfl⟩
  refine ⟨_, _, rfl, ?_⟩
  clear hGc hGh
  clear Gc Gh
  refine xs_go hsuf (D := []) (by rfl) fun Gc Gh hGc hGh X hX0 hX => ?_
  simp -implicitDefEqProofs [hX0, hX]
  try clear hX0 hX X
  intros
  refine hK _ _ _ ?_
  clear hK hGc hGh
  clear K Gc Gh
  generalize hall : d.flatten = al at *
  repeat refine pw_seq ?_
  refine pw_N [] (by rfl) (by rfl) fun K Gc Gh hK hGc hGh X hX0 hX => ?_
  simp -implicitDefEqProofs [hX0, hX, hdl]
  try clear hX0 hX X
  intros
  refine hK _ _ _ ?_
  clear hK hGc hGh
  clear K Gc Gh
  repeat refine pw_seq ?_
  refine pw_cf rfl ?_
  refine pw_skip ?_
  repeat refine pw_seq ?_
  refine pw_N [] (by rfl) (by rfl) fun K Gc Gh hK hGc hGh X hX0 hX => ?_
  simp -implicitDefEqProofs [hX0, hX]
  try clear hX0 hX X
  intros
  refine hK _ _ _ ?_
  clear hK hGc hGh
  clear K Gc Gh
  repeat refine pw_seq ?_
  refine pw_N [] (by rfl) (by rfl) fun K Gc Gh hK hGc hGh X hX0 hX => ?_
  simp -implicitDefEqProofs [hX0, hX]
  try clear hX0 hX X
  intros
  refine hK _ _ _ ?_
  clear hK hGc hGh
  clear K Gc Gh
  have hall6 : al.length ≤ 6 := by omega
  repeat refine pw_seq ?_
  refine pw_block (pw_loopL (fun s : Nat × Int => s.1 ≤ g.length ∧ s.2 = apartZ y (g.take s.1)) (fun (i, a) => [(5, .ptr (nx + 1) v1 0), (6, L g), (7, .ptr (nx + 2) v2 0), (8, L al), (9, I a), (10, I i)]) (fun _ => [.cells v0 31 (instL x), .cells v1 31 (instL y), .cells v2 37 [L d]]) (fun s => g.length - s.1) (0, 0) [] ⟨by simp, by simp [apartZ]⟩ (by simp) (by simp) ?_)
  rintro ⟨i, a⟩ ⟨hi, ha⟩
  simp only at hi ha ⊢
  repeat refine pw_seq ?_
  refine pw_N [] (by rfl) (by rfl) fun K Gc Gh hK hGc hGh X hX0 hX => ?_
  simp -implicitDefEqProofs [hX0, hX]
  try clear hX0 hX X
  intros
  refine hK _ _ _ ?_
  clear hK hGc hGh
  clear K Gc Gh
  repeat refine pw_seq ?_
  refine pw_cond rfl (fun hq => ?_) (fun hq => ?_)
  · simp at hq
    obtain ⟨s, tl, a1, a2, a3, e1, e0⟩ := el 2 rfl g i hq
    have hsg := List.mem_of_getElem? a1
    have hss := hsm s hsg
    have hcs := hcnt s hsg
    have hap0 := hap i (by omega)
    have hap1 := hap (i + 1) (by omega)
    have hw := hway s hsg
    rw [← ha] at hap0
    rw [a3, apartZ_snoc, ← ha] at hap1
    have hWR := wayR_ok y [s.c] (by simp) (by simpa using hss)
    have hW : W (wayZ y [s.c]) = wayZ y [s.c] := wr _ (by omega) (by omega)
    rw [hW] at hWR
    have hsum : IntKind.i64.wrap (a + wayZ y [s.c]) = a + wayZ y [s.c] := wr _ (by omega) (by omega)
    refine pw_skip (pw_seq (pw_block ?_))
    repeat refine pw_seq ?_
    refine pw_N [] (by rfl) (by rfl) fun K Gc Gh hK hGc hGh X hX0 hX => ?_
    simp -implicitDefEqProofs [hX0, hX]
    try clear hX0 hX X
    intros
    refine hK _ _ _ ?_
    clear hK hGc hGh
    clear K Gc Gh
    repeat refine pw_seq ?_
    refine pw_N [] (by rfl) (by rfl) fun K Gc Gh hK hGc hGh X hX0 hX => ?_
    simp -implicitDefEqProofs [hX0, hX]
    try clear hX0 hX X
    intros
    refine hK _ _ _ ?_
    clear hK hGc hGh
    clear K Gc Gh
    repeat refine pw_seq ?_
    refine pw_block (pw_loopL (fun k : Nat × Nat => k.1 ≤ al.length ∧ k.2 = (al.take k.1).count s) (fun (k, n) => [(5, .ptr (nx + 1) v1 0), (6, L g), (7, .ptr (nx + 2) v2 0), (8, L al), (9, I a), (10, I i), (11, I n), (12, I k)]) (fun _ => [.cells v0 31 (instL x), .cells v1 31 (instL y), .cells v2 37 [L d]]) (fun k => al.length - k.1) (0, 0) [] ⟨by simp, by simp⟩ (by simp) (by simp) ?_)
    rintro ⟨k, n⟩ ⟨hk, hn⟩
    simp only at hk hn ⊢
    have hnk : n ≤ k := by rw [hn]; exact Nat.le_trans List.count_le_length (by simp; omega)
    repeat refine pw_seq ?_
    refine pw_N [] (by rfl) (by rfl) fun K Gc Gh hK hGc hGh X hX0 hX => ?_
    simp -implicitDefEqProofs [hX0, hX]
    try clear hX0 hX X
    intros
    refine hK _ _ _ ?_
    clear hK hGc hGh
    clear K Gc Gh
    repeat refine pw_seq ?_
    refine pw_cond rfl (fun hq2 => ?_) (fun hq2 => ?_)
    · simp at hq2
      obtain ⟨t, tl2, b1, b2, b3, f1, f0⟩ := el 2 rfl al k hq2
      have hcn := count_snoc (al.take k) t s
      rw [← b3, ← hn] at hcn
      refine pw_skip (pw_seq (pw_block ?_))
      by_cases hts : t = s
      · subst hts
        rw [if_pos rfl] at hcn
        repeat refine pw_seq ?_
        refine pw_Y none (Row.pures [0, 1, 2, 3, 4, 5, 6, 7, 8] .done) mixed (by rfl) (by rfl) (by rfl) fun K Gp Gc Gh hK hGp hGc hGh X hX0 hX1 hX2 hX => ?_
        simp -implicitDefEqProofs [hX0, hX2, e0, f0, hq, hq2]
        try clear hX0 hX1 hX2 hX X
        intros
        refine hK _ _ _ ?_
        clear hK hGp hGc hGh
        clear K Gp Gc Gh
        repeat refine pw_seq ?_
        refine pw_ct rfl ?_
        repeat refine pw_seq ?_
        refine pw_N [] (by rfl) (by rfl) fun K Gc Gh hK hGc hGh X hX0 hX => ?_
        simp -implicitDefEqProofs [hX0, hX]
        try clear hX0 hX X
        intros
        refine hK _ _ _ ?_
        clear hK hGc hGh
        clear K Gc Gh
        repeat refine pw_seq ?_
        refine pw_N [] (by rfl) (by rfl) fun K Gc Gh hK hGc hGh X hX0 hX => ?_
        simp -implicitDefEqProofs [hX0, hX]
        try clear hX0 hX X
        intros
        refine hK _ _ _ ?_
        clear hK hGc hGh
        clear K Gc Gh
        exact again_mk (k + 1, n + 1) [] ⟨hq2, hcn.symm⟩ (by simp; omega) (by simp [wrN n (by omega), wrN k (by omega)]) rfl (by simp)
      · rw [if_neg hts, Nat.add_zero] at hcn
        have hne0 : ¬ (t.c = s.c ∧ t.q = s.q) := fun e => hts (by cases t; cases s; simp only at e; rw [e.1, e.2])
        have hne : (decide (t.c = s.c) && decide (t.q = s.q)) = false := Bool.eq_false_iff.2 fun q => hne0 (by simpa using q)
        repeat refine pw_seq ?_
        refine pw_Y none (Row.pures [0, 1, 2, 3, 4, 5, 6, 7, 8] .done) mixed (by rfl) (by rfl) (by rfl) fun K Gp Gc Gh hK hGp hGc hGh X hX0 hX1 hX2 hX => ?_
        simp -implicitDefEqProofs [hX0, hX2, e0, f0, hq, hq2, hne]
        try clear hX0 hX1 hX2 hX X
        intros
        refine hK _ _ _ ?_
        clear hK hGp hGc hGh
        clear K Gp Gc Gh
        repeat refine pw_seq ?_
        refine pw_cf rfl ?_
        refine pw_skip ?_
        repeat refine pw_seq ?_
        refine pw_N [] (by rfl) (by rfl) fun K Gc Gh hK hGc hGh X hX0 hX => ?_
        simp -implicitDefEqProofs [hX0, hX]
        try clear hX0 hX X
        intros
        refine hK _ _ _ ?_
        clear hK hGc hGh
        clear K Gc Gh
        exact again_mk (k + 1, n) [] ⟨hq2, hcn.symm⟩ (by simp; omega) (by simp [wrN k (by omega)]) rfl (by simp)
    · simp at hq2
      obtain rfl : k = al.length := by omega
      rw [List.take_length, hcs] at hn
      subst hn
      refine pw_exit ?_
      repeat refine pw_seq ?_
      refine pw_N [] (by rfl) (by rfl) fun K Gc Gh hK hGc hGh X hX0 hX => ?_
      simp -implicitDefEqProofs [hX0, hX]
      try clear hX0 hX X
      intros
      refine hK _ _ _ ?_
      clear hK hGc hGh
      clear K Gc Gh
      repeat refine pw_seq ?_
      refine pw_cf rfl ?_
      refine pw_skip ?_
      repeat refine pw_seq ?_
      refine pw_Y none (Row.pures [0, 1, 2, 3, 4, 5, 6, 7, 8, 9, 10] .done) mixed (by rfl) (by rfl) (by rfl) fun K Gp Gc Gh hK hGp hGc hGh X hX0 hX1 hX2 hX => ?_
      simp -implicitDefEqProofs [hX2, e0, hq]
      try clear hX0 hX1 hX2 hX X
      refine hGp _ _ _ _ _ _ _ _ (hWR) ?_
      clear hGp hGc hGh
      clear Gp Gc Gh
      refine px_go fun Gp Gc Gh hGp hGc hGh X hX0 hX1 hX2 hX => ?_
      simp -implicitDefEqProofs [hX0, hX2, hsum]
      try clear hX0 hX1 hX2 hX X
      refine hK _ _ _ ?_
      clear hK hGp hGc hGh
      clear K Gp Gc Gh
      repeat refine pw_seq ?_
      refine pw_N [] (by rfl) (by rfl) fun K Gc Gh hK hGc hGh X hX0 hX => ?_
      simp -implicitDefEqProofs [hX0, hX]
      try clear hX0 hX X
      intros
      refine hK _ _ _ ?_
      clear hK hGc hGh
      clear K Gc Gh
      exact again_mk (i + 1, a + wayZ y [s.c]) [] ⟨hq, by rw [a3, apartZ_snoc, ha]⟩ (by simp; omega) (by simp [wrN i (by omega)]) rfl (by simp)
  · simp at hq
    obtain rfl : i = g.length := by omega
    rw [List.take_length] at ha
    refine pw_exit ?_
    repeat refine pw_seq ?_
    refine pw_N [] (by rfl) (by rfl) fun K Gc Gh hK hGc hGh X hX0 hX => ?_
    simp -implicitDefEqProofs [hX0, hX]
    try clear hX0 hX X
    intros
    refine hK _ _ _ ?_
    clear hK hGc hGh
    clear K Gc Gh
    repeat refine pw_seq ?_
    refine pw_block (pw_loopL (fun i : Nat => i ≤ d.length) (fun i => [(5, .ptr (nx + 1) v1 0), (7, .ptr (nx + 2) v2 0), (9, I a), (13, I i)]) (fun _ => [.cells v0 31 (instL x), .cells v1 31 (instL y), .cells v2 37 [L d]]) (fun i => d.length - i) 0 [] (by simp) (by simp) (by simp) ?_)
    rintro i hi
    repeat refine pw_seq ?_
    refine pw_N [] (by rfl) (by rfl) fun K Gc Gh hK hGc hGh X hX0 hX => ?_
    simp -implicitDefEqProofs [hX0, hX]
    try clear hX0 hX X
    intros
    refine hK _ _ _ ?_
    clear hK hGc hGh
    clear K Gc Gh
    repeat refine pw_seq ?_
    refine pw_cond rfl (fun hq => ?_) (fun hq => ?_)
    · simp at hq
      obtain ⟨t, tl, a1, a2, a3, e0⟩ := el1 rfl d i hq
      have htd := List.mem_of_getElem? a1
      have ht6 := htl t htd
      have hmy := j3 t htd
      have hM := mayR_ok y t (by rw [hyc]; exact hc) (by omega)
      refine pw_skip (pw_seq (pw_block ?_))
      by_cases h1 : 1 < t.length
      · rw [hmy h1] at hM
        have h1' : (1 : Int) < t.length := by omega
        repeat refine pw_seq ?_
        refine pw_Y (some [nx + 1, nx + 2]) (Row.pures [0, 1, 2, 3, 4, 5, 6, 7, 8, 9, 10, 11, 12, 13, 14, 15, 16, 17] .done) mixed (by rfl) (by rfl) (by rfl) fun K Gp Gc Gh hK hGp hGc hGh X hX0 hX1 hX2 hX => ?_
        simp -implicitDefEqProofs [hX2, e0, hq, h1']
        try clear hX0 hX1 hX2 hX X
        refine hGp _ _ _ _ _ _ _ _ (hM) ?_
        clear hGp hGc hGh
        clear Gp Gc Gh
        refine px_go fun Gp Gc Gh hGp hGc hGh X hX0 hX1 hX2 hX => ?_
        simp -implicitDefEqProofs [hX0, hX2]
        try clear hX0 hX1 hX2 hX X
        refine hK _ _ _ ?_
        clear hK hGp hGc hGh
        clear K Gp Gc Gh
        repeat refine pw_seq ?_
        refine pw_cf rfl ?_
        refine pw_skip ?_
        repeat refine pw_seq ?_
        refine pw_N [] (by rfl) (by rfl) fun K Gc Gh hK hGc hGh X hX0 hX => ?_
        simp -implicitDefEqProofs [hX0, hX]
        try clear hX0 hX X
        intros
        refine hK _ _ _ ?_
        clear hK hGc hGh
        clear K Gc Gh
        exact again_mk (i + 1) [] hq (by omega) (by simp [wrN i (by omega)]) rfl (by simp)
      · have h1' : ¬ (1 : Int) < t.length := by omega
        repeat refine pw_seq ?_
        refine pw_Y (some [nx + 1, nx + 2]) (Row.pures [0, 1, 2, 3, 4, 5, 6, 7, 8, 9, 10, 11, 12, 13, 14, 15, 16, 17] .done) mixed (by rfl) (by rfl) (by rfl) fun K Gp Gc Gh hK hGp hGc hGh X hX0 hX1 hX2 hX => ?_
        simp -implicitDefEqProofs [hX0, hX2, e0, hq, h1', undef]
        try clear hX0 hX1 hX2 hX X
        intros
        refine hK _ _ _ ?_
        clear hK hGp hGc hGh
        clear K Gp Gc Gh
        repeat refine pw_seq ?_
        refine pw_cf rfl ?_
        refine pw_skip ?_
        repeat refine pw_seq ?_
        refine pw_N [] (by rfl) (by rfl) fun K Gc Gh hK hGc hGh X hX0 hX => ?_
        simp -implicitDefEqProofs [hX0, hX]
        try clear hX0 hX X
        intros
        refine hK _ _ _ ?_
        clear hK hGc hGh
        clear K Gc Gh
        exact again_mk (i + 1) [] hq (by omega) (by simp [wrN i (by omega)]) rfl (by simp)
    · simp at hq
      obtain rfl : i = d.length := by omega
      have hca : W (costZ y d) ≤ a := by
        have h1 := hap g.length (Nat.le_refl _)
        rw [List.take_length, ← ha] at h1
        have h2 : costZ y d ≤ a := by rw [ha]; exact j4
        have h3 : 0 ≤ costZ y d := costZ_nonneg hA d
        rw [show W (costZ y d) = costZ y d from wr _ (by omega) (by omega)]
        exact h2
      refine pw_exit ?_
      repeat refine pw_seq ?_
      refine pw_N [(5, 97)] (by rfl) (by rfl) fun K Gc Gh hK hGc hGh X hX0 hX => ?_
      simp -implicitDefEqProofs [hX]
      try clear hX0 hX X
      refine hGc _ _ _ _ _ _ _ fun hsuf => ((hCost _).mono ?_).v
      rintro _ _ ⟨rfl, rfl⟩
      refine ⟨_, _, rfl, ?_⟩
      clear hGc hGh
      clear Gc Gh
      refine xs_go hsuf (D := [(5, 97)]) (by rfl) fun Gc Gh hGc hGh X hX0 hX => ?_
      simp -implicitDefEqProofs [hX, hca]
      try clear hX0 hX X
      refine hGc _ _ _ _ _ _ _ fun hsuf => ((lives13_ok _).mono ?_).v
      rintro _ _ ⟨rfl, rfl⟩
      refine ⟨_, _, rfl, ?_⟩
      clear hGc hGh
      clear Gc Gh
      refine xs_go hsuf (D := [(5, 97)]) (by rfl) fun Gc Gh hGc hGh X hX0 hX => ?_
      simp -implicitDefEqProofs [hX0, hX]
      try clear hX0 hX X
      intros
      refine hK _ _ _ ?_
      clear hK hGc hGh
      clear K Gc Gh
      repeat refine pw_seq ?_
      exact pw_ret (ret_pure hd rfl rfl)

end Go.Proofs.Ytpifkibgplnnkaa.Pv
