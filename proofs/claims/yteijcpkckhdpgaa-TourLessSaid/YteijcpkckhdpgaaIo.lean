/- The law TourWider: what it computes. -/
import Derived.Test.YteijcpkckhdpgaaIm
namespace Go.Proofs.Yteijcpkckhdpgaa.Pv
open Go

theorem arc_congr {x y : Inst} (h : y.dist = x.dist) (a b : Int) : arc y a b = arc x a b := by unfold arc; rw [h]
theorem wayS_congr {x y : Inst} (h : y.dist = x.dist) : ∀ (l : List Int) (a : Int), wayS y a l = wayS x a l
  | [], a => arc_congr h a 0
  | c :: l, a => by simp only [wayS]; rw [arc_congr h, wayS_congr h l]
theorem wayZ_congr {x y : Inst} (h : y.dist = x.dist) (l : List Int) : wayZ y l = wayZ x l := by unfold wayZ; rw [wayS_congr h]

theorem mayT_wider {y : Inst} {t : Tour} {a b : Int} (ha : y.cap ≤ a) (hb : y.len ≤ b) (h : mayT y t = 0) : mayT { y with cap := a, len := b } t = 0 := by
  rw [mayT_zero] at h ⊢
  obtain ⟨h1, h2, h3, h4⟩ := h
  refine ⟨h1, h2, Int.le_trans h3 ha, ?_⟩
  rw [wayZ_congr (x := y) (y := { y with cap := a, len := b }) rfl]
  exact Int.le_trans h4 hb

theorem abs_i64 {q : Int} (h : I64 q) (hq : q < 0) : IntKind.i64.wrap (q + 1) = q + 1 ∧ IntKind.i64.wrap (-(q + 1)) = -(q + 1) := by
  unfold I64 at h
  exact ⟨wr _ (by omega) (by omega), wr _ (by omega) (by omega)⟩

theorem goodI_cap (x : Inst) : 0 ≤ (goodI x).cap ∧ (goodI x).cap ≤ 40 ∧ 0 ≤ (goodI x).len ∧ (goodI x).len ≤ 300 := by
  have h1 := rnd_le x.cap 0 40 (by omega)
  have h2 := rnd_le x.len 0 300 (by omega)
  simp only [goodI]; omega

set_option maxRecDepth 10000 in
theorem tourWider_ok (x : Inst) (l : List Stop) (cuts : List Bool) (more : Int) (hx : InstOk x) (hl : Lists l cuts) (hmo : I64 more) : Pure Try.prog 8 [.agg (instL x), L l, L cuts, I more] (B true) := by
  have hc := goodI_cust' x
  have hc6 := goodI_cust x
  have hcap := goodI_cap x
  have hg := goods_of (n := (goodI x).cust.length) hl.2.1
  have hm := made_of cuts hg
  have htours := tours_ok (goodI x) l cuts hl.1 hl.2.2 hc hl.2.1 hg.len
  generalize toursOf cuts (goodL (goodI x).cust.length [] l) = d at *
  have hgi := goodI_ok x hx
  generalize goodI x = y at *
  have hd6 := hm.len
  have hab := absq_ok hmo
  refine pure_enter Try.func8 (by rfl) rfl Try.ntmps8 (congrArg Array.toList Try.results8) (by simp) fun S nx hd => ?_
  repeat refine pw_seq ?_
  refine pw_N [] (by rfl) (by rfl) fun K Gc Gh hK hGc hGh X hX0 hX => ?_
  simp -implicitDefEqProofs [hX0, hX]
  try clear hX0 hX X
  intro v0
  refine hK _ _ _ ?_
  clear hK hGc hGh
  clear K Gc Gh
  repeat refine pw_seq ?_
  refine pw_N [] (by rfl) (by rfl) fun K Gc Gh hK hGc hGh X hX0 hX => ?_
  simp -implicitDefEqProofs [hX0, hX]
  try clear hX0 hX X
  refine hGc _ _ _ _ _ _ _ fun hsuf => ((hgi _).mono ?_)
  rintro _ _ ⟨rfl, rfl⟩
  refine ⟨_, _, rfl, ?_⟩
  clear hGc hGh
  clear Gc Gh
  refine xs_go hsuf (D := []) (by rfl) fun Gc Gh hGc hGh X hX0 hX => ?_
  simp -implicitDefEqProofs [hX0, hX]
  try clear hX0 hX X
  intro v1
  intros
  refine hK _ _ _ ?_
  clear hK hGc hGh
  clear K Gc Gh
  repeat refine pw_seq ?_
  refine pw_N [] (by rfl) (by rfl) fun K Gc Gh hK hGc hGh X hX0 hX => ?_
  simp -implicitDefEqProofs [hX0, hX]
  try clear hX0 hX X
  refine hGc _ _ _ _ _ _ _ fun hsuf => ((htours _).mono ?_)
  rintro _ _ ⟨rfl, rfl⟩
  refine ⟨_, _, rfl, ?_⟩
  clear hGc hGh
  clear Gc Gh
  refine xs_go hsuf (D := []) (by rfl) fun Gc Gh hGc hGh X hX0 hX => ?_
  simp -implicitDefEqProofs [hX0, hX]
  try clear hX0 hX X
  intro v2
  intros
  refine hK _ _ _ ?_
  clear hK hGc hGh
  clear K Gc Gh
  refine pw_seq (pw_joinK (nx := nx) (σ := Nat × Nat × Nat) (fun _ => True) (fun (v0, v1, v2) => [(3, I (absq more)), (9, .ptr (nx + 1) v1 0), (10, .ptr (nx + 2) v2 0)]) (fun _ => S) (fun (v0, v1, v2) => [.cells v0 25 (instL x), .cells v1 25 (instL y), .cells v2 37 [L d]]) ?_ ?_)
  · repeat refine pw_seq ?_
    refine pw_N [] (by rfl) (by rfl) fun K Gc Gh hK hGc hGh X hX0 hX => ?_
    simp -implicitDefEqProofs [hX0, hX]
    try clear hX0 hX X
    intros
    refine hK _ _ _ ?_
    clear hK hGc hGh
    clear K Gc Gh
    by_cases hn : more < 0
    · obtain ⟨q1, q2⟩ := abs_i64 hmo hn
      refine pw_ct (by simp [hn]) ?_
      repeat refine pw_seq ?_
      refine pw_N [] (by rfl) (by rfl) fun K Gc Gh hK hGc hGh X hX0 hX => ?_
      simp -implicitDefEqProofs [hX0, hX, q1, q2]
      try clear hX0 hX X
      intros
      refine hK _ _ _ ?_
      clear hK hGc hGh
      clear K Gc Gh
      exact at_mk (v0, v1, v2) [] trivial (by simp [absq, hn, q1, q2]) rfl (by simp)
    · refine pw_cf (by simp [hn]) ?_
      refine pw_skip ?_
      exact at_mk (v0, v1, v2) [] trivial (by simp [absq, hn]) rfl (by simp)
  · rintro ⟨v0, v1, v2⟩ -
    simp only
    have t1 : (absq more).tmod 1001 = absq more % 1001 := Int.tmod_eq_emod_of_nonneg hab.1
    have t2 : 0 ≤ absq more % 1001 ∧ absq more % 1001 < 1001 := ⟨Int.emod_nonneg _ (by omega), Int.emod_lt_of_pos _ (by omega)⟩
    generalize hmm : absq more % 1001 = mm at *
    have w1 : IntKind.i64.wrap (y.cap + mm) = y.cap + mm := wr _ (by omega) (by omega)
    have w2 : IntKind.i64.wrap (y.len + mm) = y.len + mm := wr _ (by omega) (by omega)
    repeat refine pw_seq ?_
    refine pw_N [] (by rfl) (by rfl) fun K Gc Gh hK hGc hGh X hX0 hX => ?_
    simp -implicitDefEqProofs [hX0, hX]
    try clear hX0 hX X
    intro v3
    refine hK _ _ _ ?_
    clear hK hGc hGh
    clear K Gc Gh
    repeat refine pw_seq ?_
    refine pw_N [] (by rfl) (by rfl) fun K Gc Gh hK hGc hGh X hX0 hX => ?_
    simp -implicitDefEqProofs [hX0, hX, t1, w1]
    try clear hX0 hX X
    intros
    refine hK _ _ _ ?_
    clear hK hGc hGh
    clear K Gc Gh
    repeat refine pw_seq ?_
    refine pw_N [] (by rfl) (by rfl) fun K Gc Gh hK hGc hGh X hX0 hX => ?_
    simp -implicitDefEqProofs [hX0, hX, t1, w2]
    try clear hX0 hX X
    intros
    refine hK _ _ _ ?_
    clear hK hGc hGh
    clear K Gc Gh
    repeat refine pw_seq ?_
    refine pw_N [] (by rfl) (by rfl) fun K Gc Gh hK hGc hGh X hX0 hX => ?_
    simp -implicitDefEqProofs [hX0, hX]
    try clear hX0 hX X
    intros
    refine hK _ _ _ ?_
    clear hK hGc hGh
    clear K Gc Gh
    repeat refine pw_seq ?_
    refine pw_block (pw_loopL (fun s : Nat × Nat × Nat × Nat × Nat => s.1 ≤ d.length) (fun (k, v0, v1, v2, v3) => [(9, .ptr (nx + 1) v1 0), (10, .ptr (nx + 2) v2 0), (11, .ptr (nx + 3) v3 0), (12, I k)])
      (fun (k, v0, v1, v2, v3) => [.cells v0 25 (instL x), .cells v1 25 (instL y), .cells v2 37 [L d], .cells v3 25 (instL { y with cap := y.cap + mm, len := y.len + mm })]) (fun s => d.length - s.1) (0, v0, v1, v2, v3) [] (by simp) (by simp) (by simp [t1, hmm, w1, w2]) ?_)
    rintro ⟨k, v0, v1, v2, v3⟩ hk
    simp only at hk ⊢
    repeat refine pw_seq ?_
    refine pw_N [] (by rfl) (by rfl) fun K Gc Gh hK hGc hGh X hX0 hX => ?_
    simp -implicitDefEqProofs [hX0, hX]
    try clear hX0 hX X
    intros
    refine hK _ _ _ ?_
    clear hK hGc hGh
    clear K Gc Gh
    repeat refine pw_seq ?_
    refine pw_cond rfl (fun hq => ?_) (fun hq => ?_)
    · simp at hq
      obtain ⟨t, tl, a1, a2, a3, e0⟩ := el1 rfl d k hq
      have htd := List.mem_of_getElem? a1
      have ht6 := hm.tlen htd
      refine pw_skip (pw_seq (pw_block ?_))
      by_cases hz : mayT y t = 0
      · have hz2 := mayT_wider (a := y.cap + mm) (b := y.len + mm) (by omega) (by omega) hz
        repeat refine pw_seq ?_
        refine pw_Y (some [nx + 1, nx + 2, nx + 3]) (Row.pures [0, 1, 2, 3, 4, 5, 6, 7, 8, 9, 10, 11, 12, 13, 14, 15, 16, 17] .done) mixed (by rfl) (by rfl) (by rfl) fun K Gp Gc Gh hK hGp hGc hGh X hX0 hX1 hX2 hX => ?_
        simp -implicitDefEqProofs [hX0, hX1, hX2, hX, hq, e0]
        try clear hX0 hX1 hX2 hX X
        refine hGp _ _ _ _ _ _ _ _ (mayP_ok y t hc (by omega)) ?_
        clear hGp hGc hGh
        clear Gp Gc Gh
        refine px_go fun Gp Gc Gh hGp hGc hGh X hX0 hX1 hX2 hX => ?_
        simp -implicitDefEqProofs [hX0, hX1, hX2, hX, hz, hq, e0]
        try clear hX0 hX1 hX2 hX X
        refine hGp _ _ _ _ _ _ _ _ (mayP_ok { y with cap := y.cap + mm, len := y.len + mm } t hc (by omega)) ?_
        clear hGp hGc hGh
        clear Gp Gc Gh
        refine px_go fun Gp Gc Gh hGp hGc hGh X hX0 hX1 hX2 hX => ?_
        simp -implicitDefEqProofs [hX0, hX1, hX2, hX, hz2]
        try clear hX0 hX1 hX2 hX X
        refine hK _ _ _ ?_
        clear hK hGp hGc hGh
        clear K Gp Gc Gh
        refine pw_cf (by simp) ?_
        refine pw_skip ?_
        repeat refine pw_seq ?_
        refine pw_N [] (by rfl) (by rfl) fun K Gc Gh hK hGc hGh X hX0 hX => ?_
        simp -implicitDefEqProofs [hX0, hX]
        try clear hX0 hX X
        intros
        refine hK _ _ _ ?_
        clear hK hGc hGh
        clear K Gc Gh
        exact again_mk (k + 1, v0, v1, v2, v3) [] hq (by simp; omega) (by simp [wrN k (by omega)]) rfl (by simp)
      · repeat refine pw_seq ?_
        refine pw_Y (some [nx + 1, nx + 2, nx + 3]) (Row.pures [0, 1, 2, 3, 4, 5, 6, 7, 8, 9, 10, 11, 12, 13, 14, 15, 16, 17] .done) mixed (by rfl) (by rfl) (by rfl) fun K Gp Gc Gh hK hGp hGc hGh X hX0 hX1 hX2 hX => ?_
        simp -implicitDefEqProofs [hX0, hX1, hX2, hX, hq, e0]
        try clear hX0 hX1 hX2 hX X
        refine hGp _ _ _ _ _ _ _ _ (mayP_ok y t hc (by omega)) ?_
        clear hGp hGc hGh
        clear Gp Gc Gh
        refine px_go fun Gp Gc Gh hGp hGc hGh X hX0 hX1 hX2 hX => ?_
        simp -implicitDefEqProofs [hX0, hX1, hX2, hX, hz, undef]
        try clear hX0 hX1 hX2 hX X
        refine hK _ _ _ ?_
        clear hK hGp hGc hGh
        clear K Gp Gc Gh
        refine pw_cf (by simp) ?_
        refine pw_skip ?_
        repeat refine pw_seq ?_
        refine pw_N [] (by rfl) (by rfl) fun K Gc Gh hK hGc hGh X hX0 hX => ?_
        simp -implicitDefEqProofs [hX0, hX]
        try clear hX0 hX X
        intros
        refine hK _ _ _ ?_
        clear hK hGc hGh
        clear K Gc Gh
        exact again_mk (k + 1, v0, v1, v2, v3) [] hq (by simp; omega) (by simp [wrN k (by omega)]) rfl (by simp)
    · simp at hq
      refine pw_exit ?_
      repeat refine pw_seq ?_
      refine pw_N [] (by rfl) (by rfl) fun K Gc Gh hK hGc hGh X hX0 hX => ?_
      simp -implicitDefEqProofs [hX0, hX]
      try clear hX0 hX X
      refine hGc _ _ _ _ _ _ _ fun hsuf => ((lives_ok _).mono ?_)
      rintro _ _ ⟨rfl, rfl⟩
      refine ⟨_, _, rfl, ?_⟩
      clear hGc hGh
      clear Gc Gh
      refine xs_go hsuf (D := []) (by rfl) fun Gc Gh hGc hGh X hX0 hX => ?_
      simp -implicitDefEqProofs [hX0, hX]
      try clear hX0 hX X
      intros
      refine hK _ _ _ ?_
      clear hK hGc hGh
      clear K Gc Gh
      repeat refine pw_seq ?_
      exact pw_ret (ret_pure hd rfl rfl)

end Go.Proofs.Yteijcpkckhdpgaa.Pv
