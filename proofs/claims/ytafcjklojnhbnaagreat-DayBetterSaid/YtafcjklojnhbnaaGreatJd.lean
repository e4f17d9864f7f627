/- Good instances, made of any. -/
import Derived.Test.YtafcjklojnhbnaaGreatJc
import Derived.Test.YtafcjklojnhbnaaGreatIb
namespace Go.Proofs.YtafcjklojnhbnaaGreat.Pv
open Go

def goodRow (x : Inst) (n a : Nat) : List Int := (List.range (n + 1)).map fun b => if a ≠ b then rnd (arc x a b) 0 60 else 0
def goodI (x : Inst) : Inst :=
  ⟨rnd x.days 1 7, rnd x.veh 0 5, rnd x.cap 0 40, rnd x.len 0 300, (x.cust.take 6).map fun c => goodC c (rnd x.days 1 7), (List.range ((x.cust.take 6).length + 1)).map fun a => goodRow x (x.cust.take 6).length a⟩

structure InstOk (x : Inst) : Prop where
  days : I64 x.days
  veh : I64 x.veh
  cap : I64 x.cap
  len : I64 x.len
  ncust : x.cust.length ≤ 9223372036854775807
  cust : ∀ c ∈ x.cust, CustOk c
  ndist : x.dist.length ≤ 9223372036854775807
  dist : ∀ r ∈ x.dist, r.length ≤ 9223372036854775807 ∧ ∀ d ∈ r, I64 d

theorem arc_64 {x : Inst} (hx : InstOk x) (a b : Int) : I64 (arc x a b) := by
  unfold arc
  split
  · unfold I64; omega
  · rw [List.getD_eq_getElem?_getD, List.getD_eq_getElem?_getD]
    cases hr : x.dist[a.toNat]? with
    | none => simp [I64]
    | some r =>
      cases hd : r[b.toNat]? with
      | none => simp [hd, I64]
      | some d =>
        simp only [Option.getD_some, hd]
        exact (hx.dist r (List.mem_of_getElem? hr)).2 d (List.mem_of_getElem? hd)

def rowTo (x : Inst) (n a k : Nat) : List Int := (List.range (n + 1)).map fun b => if b < k then (if a ≠ b then rnd (arc x a b) 0 60 else 0) else 0
theorem rowTo_len (x : Inst) (n a k : Nat) : (rowTo x n a k).length = n + 1 := by simp [rowTo]
theorem rowTo_zero (x : Inst) (n a : Nat) : rowTo x n a 0 = List.replicate (n + 1) 0 := by
  apply List.ext_getElem
  · simp [rowTo]
  · intro i h1 h2; simp only [List.getElem_replicate]; simp [rowTo]
theorem rowTo_all (x : Inst) (n a : Nat) : rowTo x n a (n + 1) = goodRow x n a := by
  apply List.ext_getElem
  · simp [rowTo, goodRow]
  · intro i h1 h2
    simp [rowTo] at h1
    simp [rowTo, goodRow, h1]
theorem rowTo_ne (x : Inst) (n a k : Nat) (_ : k ≤ n) (hne : a ≠ k) : (rowTo x n a k).set k (rnd (arc x a k) 0 60) = rowTo x n a (k + 1) := by
  apply List.ext_getElem
  · simp [rowTo]
  · intro i h1 h2
    rw [List.getElem_set]
    simp only [rowTo, List.getElem_map, List.getElem_range]
    split
    · rename_i e; subst e; simp [hne]
    · rename_i e
      by_cases q : i < k
      · simp [q, show i < k + 1 by omega]
      · simp [q, show ¬ i < k + 1 by omega]
theorem rowTo_eq (x : Inst) (n k : Nat) : rowTo x n k k = rowTo x n k (k + 1) := by
  apply List.ext_getElem
  · simp [rowTo]
  · intro i h1 h2
    simp only [rowTo, List.getElem_map, List.getElem_range]
    by_cases q : i < k
    · simp [q, show i < k + 1 by omega]
    · by_cases e : i = k
      · subst e; simp
      · simp [q, show ¬ i < k + 1 by omega]

abbrev goodObs (x : Inst) (v0 v1 v2 : Nat) (cs ds : PV) : List Ob :=
  [.cells v0 25 (instL x), .cells v1 25 [I 0, I 0, I 0, I 0, .sc (.slice none 0 0), .sc (.slice none 0 0)], .cells v2 25 [I (rnd x.days 1 7), I (rnd x.veh 0 5), I (rnd x.cap 0 40), I (rnd x.len 0 300), cs, ds]]

set_option maxRecDepth 10000 in
theorem goodI_ok (x : Inst) (hx : InstOk x) : Pure Tryz.prog 10 [.agg (instL x)] (.agg (instL (goodI x))) := by
  have hd7 := rnd_le x.days 1 7 (by omega)
  have hnc := hx.ncust
  refine pure_enter Tryz.func10 (by rfl) rfl Tryz.ntmps10 (congrArg Array.toList Tryz.results10) (by simp) fun S nx hd => ?_
  repeat refine pw_seq ?_
  refine pw_N [] (by rfl) (by rfl) fun K Gc Gh hK hGc hGh X hX0 hX => ?_
  simp -implicitDefEqProofs [hX0, hX]
  try clear hX0 hX X
  intro v0 v1
  refine hK _ _ _ ?_
  clear hK hGc hGh
  clear K Gc Gh
  repeat refine pw_seq ?_
  refine pw_Y (some [nx]) (Row.pures [0, 1, 2, 3, 4, 5, 6, 7, 8, 9, 10, 11, 12] (.alt 13 (.alt 14 (.done) .stop) .stop)) mixed (by rfl) (by rfl) (by rfl) fun K Gp Gc Gh hK hGp hGc hGh X hX0 hX1 hX2 hX => ?_
  simp -implicitDefEqProofs [hX2]
  try clear hX0 hX1 hX2 hX X
  refine hGp _ _ _ _ _ _ _ _ (round_ok _ _ _ hx.days (by omega) (by omega) (by omega)) ?_
  clear hGp hGc hGh
  clear Gp Gc Gh
  refine px_go fun Gp Gc Gh hGp hGc hGh X hX0 hX1 hX2 hX => ?_
  simp -implicitDefEqProofs [hX2]
  try clear hX0 hX1 hX2 hX X
  refine hGp _ _ _ _ _ _ _ _ (round_ok _ _ _ hx.veh (by omega) (by omega) (by omega)) ?_
  clear hGp hGc hGh
  clear Gp Gc Gh
  refine px_go fun Gp Gc Gh hGp hGc hGh X hX0 hX1 hX2 hX => ?_
  simp -implicitDefEqProofs [hX2]
  try clear hX0 hX1 hX2 hX X
  refine hGp _ _ _ _ _ _ _ _ (round_ok _ _ _ hx.cap (by omega) (by omega) (by omega)) ?_
  clear hGp hGc hGh
  clear Gp Gc Gh
  refine px_go fun Gp Gc Gh hGp hGc hGh X hX0 hX1 hX2 hX => ?_
  simp -implicitDefEqProofs [hX2]
  try clear hX0 hX1 hX2 hX X
  refine hGp _ _ _ _ _ _ _ _ (round_ok _ _ _ hx.len (by omega) (by omega) (by omega)) ?_
  clear hGp hGc hGh
  clear Gp Gc Gh
  refine px_go fun Gp Gc Gh hGp hGc hGh X hX0 hX1 hX2 hX => ?_
  simp -implicitDefEqProofs [hX0, hX1, hX2, hX]
  try clear hX0 hX1 hX2 hX X
  intro v2
  refine hK _ _ _ ?_
  clear hK hGp hGc hGh
  clear K Gp Gc Gh
  refine pw_seq (pw_nilObX 2 4 60 8 rfl rfl fun v3 => ?_)
  repeat refine pw_seq ?_
  refine pw_N [] (by rfl) (by rfl) fun K Gc Gh hK hGc hGh X hX0 hX => ?_
  simp -implicitDefEqProofs [hX0, hX]
  try clear hX0 hX X
  intros
  refine hK _ _ _ ?_
  clear hK hGc hGh
  clear K Gc Gh
  have hdz : rnd x.days 1 7 ≤ 63 := by omega
  generalize hdy : rnd x.days 1 7 = dz at *
  refine pw_joinK (nx := nx) (σ := Nat × Nat × Nat × Nat) (fun _ => True) (fun (v0, v1, v2, v3) => [(1, .ptr nx v0 0), (2, .ptr (nx + 1) v1 0), (3, .ptr (nx + 2) v2 0)]) (fun _ => S)
    (fun (v0, v1, v2, v3) => goodObs x v0 v1 v2 (.sl (nx + 3) v3 8 0 ((x.cust.take 6).map fun c => goodC c dz).length) (.sc (.slice none 0 0)) ++ [.cells v3 60 (((x.cust.take 6).map fun c => goodC c dz).flatMap Enc.enc)]) ?_ ?_
  · repeat refine pw_seq ?_
    refine pw_block (pw_loopL (fun s : Nat × List Cust × Nat × Nat × Nat × Nat => s.1 ≤ x.cust.length ∧ s.1 ≤ 6 ∧ s.2.1 = (x.cust.take s.1).map fun c => goodC c dz) (fun (k, out, v0, v1, v2, v3) => [(1, .ptr nx v0 0), (2, .ptr (nx + 1) v1 0), (3, .ptr (nx + 2) v2 0), (4, I k)])
      (fun (k, out, v0, v1, v2, v3) => goodObs x v0 v1 v2 (.sl (nx + 3) v3 8 0 out.length) (.sc (.slice none 0 0)) ++ [.cells v3 60 (out.flatMap Enc.enc)]) (fun s => 6 - s.1) (0, [], v0, v1, v2, v3) [] (by simp) (by simp) (by simp [hdy]) ?_)
    rintro ⟨k, out, v0, v1, v2, v3⟩ ⟨hk1, hk6, ho⟩
    simp only at hk1 hk6 ho ⊢
    have hol : out.length = k := by rw [ho]; simp; omega
    have fin : (k = x.cust.length ∨ k = 6) → out = (x.cust.take 6).map fun c => goodC c dz := by
      rintro (q | q)
      · rw [ho, List.take_of_length_le (by omega), List.take_of_length_le (by omega)]
      · rw [ho, q]
    by_cases hq1 : k < x.cust.length
    · by_cases hq2 : (k : Int) < 6
      · repeat refine pw_seq ?_
        refine pw_N [(5, 27)] (by rfl) (by rfl) fun K Gc Gh hK hGc hGh X hX0 hX => ?_
        simp -implicitDefEqProofs [hX0, hX, hq1, hq2]
        try clear hX0 hX X
        intros
        refine hK _ _ _ ?_
        clear hK hGc hGh
        clear K Gc Gh
        repeat refine pw_seq ?_
        refine pw_ct rfl ?_
        obtain ⟨c, tl, a1, a2, a3, e1, e0⟩ := el 8 rfl x.cust k hq1
        have hc := hx.cust c (List.mem_of_getElem? a1)
        refine pw_skip (pw_seq (pw_block ?_))
        repeat refine pw_seq ?_
        refine pw_Y (some [nx]) (Row.pures [0, 2, 3, 4, 5, 6, 7] (.alt 1 (.alt 8 (Row.pures [9, 10] (.alt 11 (Row.pures [12] (.alt 13 (.done) .stop)) .stop)) .stop) (.alt 8 (Row.pures [9, 10] (.alt 1 (.alt 11 (Row.pures [12] (.alt 13 (.done) .stop)) .stop) .stop)) .stop))) mixed (by rfl) (by rfl) (by rfl) fun K Gp Gc Gh hK hGp hGc hGh X hX0 hX1 hX2 hX => ?_
        simp -implicitDefEqProofs [hX1, hX2, hX, hq1, e0, hdy]
        try clear hX0 hX1 hX2 hX X
        have w1 := wrN k (by omega)
        refine ⟨?_, ?_⟩
        all_goals
          refine hGp _ _ _ _ _ _ _ _ (good_ok c dz hc (by omega) hdz) ?_
          clear hGp hGc hGh
          clear Gp Gc Gh
          refine px_go fun Gp Gc Gh hGp hGc hGh X hX0 hX1 hX2 hX => ?_
          simp -implicitDefEqProofs [hX0, hX1, hX2, hX]
          try clear hX0 hX1 hX2 hX X
          refine ⟨by omega, ?_⟩
          refine hK _ _ _ ?_
          clear hK hGp hGc hGh
          clear K Gp Gc Gh
          repeat refine pw_seq ?_
          refine pw_N [] (by rfl) (by rfl) fun K Gc Gh hK hGc hGh X hX0 hX => ?_
          simp -implicitDefEqProofs [hX0, hX]
          try clear hX0 hX X
          intros
          refine hK _ _ _ ?_
          clear hK hGc hGh
          clear K Gc Gh
          exact again_mk (k + 1, out ++ [goodC c dz], v0, v1, v2, v3 + 1) [] (by simp [drop_take_map _ a3, ho]; omega) (by simp; omega) (by simp [w1]) rfl (by simp [hdy])
      · repeat refine pw_seq ?_
        refine pw_N [(5, 27)] (by rfl) (by rfl) fun K Gc Gh hK hGc hGh X hX0 hX => ?_
        simp -implicitDefEqProofs [hX0, hX, hq1, hq2]
        try clear hX0 hX X
        intros
        refine hK _ _ _ ?_
        clear hK hGc hGh
        clear K Gc Gh
        repeat refine pw_seq ?_
        refine pw_cf rfl ?_
        have hk := fin (.inr (by omega))
        exact pw_exit (at_mk (v0, v1, v2, v3) [] trivial (by simp) rfl (by simp only [← hk]; simp))
    · repeat refine pw_seq ?_
      refine pw_N [(5, 27)] (by rfl) (by rfl) fun K Gc Gh hK hGc hGh X hX0 hX => ?_
      simp -implicitDefEqProofs [hX0, hX, hq1, undef]
      try clear hX0 hX X
      intros
      refine hK _ _ _ ?_
      clear hK hGc hGh
      clear K Gc Gh
      repeat refine pw_seq ?_
      refine pw_cf rfl ?_
      have hk := fin (.inl (by omega))
      exact pw_exit (at_mk (v0, v1, v2, v3) [] trivial (by simp) rfl (by simp only [← hk]; simp))
  · rintro ⟨v0, v1, v2, v3⟩ -
    simp only
    have hg : goodI x = ⟨dz, rnd x.veh 0 5, rnd x.cap 0 40, rnd x.len 0 300, (x.cust.take 6).map fun c => goodC c dz, (List.range ((x.cust.take 6).length + 1)).map fun a => goodRow x (x.cust.take 6).length a⟩ := by unfold goodI; rw [hdy]
    have hcl : ((x.cust.take 6).map fun c => goodC c dz).length = (x.cust.take 6).length := by simp
    have hn6 : (x.cust.take 6).length ≤ 6 := by simp; omega
    rw [hg]
    rw [← hcl] at hn6 ⊢
    generalize (x.cust.take 6).map (fun c => goodC c dz) = cs at *
    repeat refine pw_seq ?_
    refine pw_N [] (by rfl) (by rfl) fun K Gc Gh hK hGc hGh X hX0 hX => ?_
    simp -implicitDefEqProofs [hX0, hX]
    try clear hX0 hX X
    intros
    refine hK _ _ _ ?_
    clear hK hGc hGh
    clear K Gc Gh
    refine pw_seq (pw_nilObX 2 5 62 1 rfl rfl fun v4 => ?_)
    repeat refine pw_seq ?_
    refine pw_N [] (by rfl) (by rfl) fun K Gc Gh hK hGc hGh X hX0 hX => ?_
    simp -implicitDefEqProofs [hX0, hX]
    try clear hX0 hX X
    intros
    refine hK _ _ _ ?_
    clear hK hGc hGh
    clear K Gc Gh
    have w0 : IntKind.i64.wrap ((cs.length : Int) + 1) = ((cs.length + 1 : Nat) : Int) := wrN _ (by omega)
    repeat refine pw_seq ?_
    refine pw_block (pw_loopL (fun s : Nat × List (List Int) × Nat × Nat × Nat × Nat × Nat => s.1 ≤ cs.length + 1 ∧ s.2.1 = (List.range s.1).map fun a => goodRow x cs.length a) (fun (a, out, v0, v1, v2, v3, v4) => [(1, .ptr nx v0 0), (2, .ptr (nx + 1) v1 0), (3, .ptr (nx + 2) v2 0), (5, I cs.length), (6, I a)])
      (fun (a, out, v0, v1, v2, v3, v4) => goodObs x v0 v1 v2 (.sl (nx + 3) v3 8 0 cs.length) (.sl (nx + 4) v4 1 0 out.length) ++ [.cells v3 60 (cs.flatMap Enc.enc), .cells v4 62 (out.flatMap Enc.enc)]) (fun s => cs.length + 1 - s.1) (0, [], v0, v1, v2, v3, v4) [] (by simp) (by simp) (by simp [hdy]) ?_)
    rintro ⟨a, out, v0, v1, v2, v3, v4⟩ ⟨ha, ho⟩
    simp only at ha ho ⊢
    have hol : out.length = a := by rw [ho]; simp
    repeat refine pw_seq ?_
    refine pw_N [] (by rfl) (by rfl) fun K Gc Gh hK hGc hGh X hX0 hX => ?_
    simp -implicitDefEqProofs [hX0, hX]
    try clear hX0 hX X
    intros
    refine hK _ _ _ ?_
    clear hK hGc hGh
    clear K Gc Gh
    repeat refine pw_seq ?_
    refine pw_cond rfl (fun hc => ?_) (fun hc => ?_)
    · simp at hc
      refine pw_skip (pw_seq (pw_block ?_))
      repeat refine pw_seq ?_
      refine pw_N [] (by rfl) (by rfl) fun K Gc Gh hK hGc hGh X hX0 hX => ?_
      simp -implicitDefEqProofs [hX0, hX, w0]
      try clear hX0 hX X
      refine ⟨by omega, fun v5 => ?_⟩
      intros
      refine hK _ _ _ ?_
      clear hK hGc hGh
      clear K Gc Gh
      repeat refine pw_seq ?_
      refine pw_N [] (by rfl) (by rfl) fun K Gc Gh hK hGc hGh X hX0 hX => ?_
      simp -implicitDefEqProofs [hX0, hX]
      try clear hX0 hX X
      intros
      refine hK _ _ _ ?_
      clear hK hGc hGh
      clear K Gc Gh
      repeat refine pw_seq ?_
      refine pw_block (pw_loopL (fun s : Nat × Nat × Nat × Nat × Nat × Nat × Nat => s.1 ≤ cs.length + 1) (fun (b, v0, v1, v2, v3, v4, v5) => [(1, .ptr nx v0 0), (2, .ptr (nx + 1) v1 0), (3, .ptr (nx + 2) v2 0), (5, I cs.length), (6, I a), (7, .sl (nx + 5) v5 1 0 (cs.length + 1)), (8, I b)])
        (fun (b, v0, v1, v2, v3, v4, v5) => goodObs x v0 v1 v2 (.sl (nx + 3) v3 8 0 cs.length) (.sl (nx + 4) v4 1 0 out.length) ++ [.cells v3 60 (cs.flatMap Enc.enc), .cells v4 62 (out.flatMap Enc.enc), .cells v5 3 ((rowTo x cs.length a b).flatMap Enc.enc)]) (fun s => cs.length + 1 - s.1) (0, v0, v1, v2, v3, v4, v5) [] (by simp) (by simp) (by simp [hdy, rowTo_zero, zeros_int]) ?_)
      rintro ⟨b, v0, v1, v2, v3, v4, v5⟩ hb
      simp only at hb ⊢
      repeat refine pw_seq ?_
      refine pw_N [] (by rfl) (by rfl) fun K Gc Gh hK hGc hGh X hX0 hX => ?_
      simp -implicitDefEqProofs [hX0, hX]
      try clear hX0 hX X
      intros
      refine hK _ _ _ ?_
      clear hK hGc hGh
      clear K Gc Gh
      repeat refine pw_seq ?_
      refine pw_cond rfl (fun hc2 => ?_) (fun hc2 => ?_)
      · simp at hc2
        have hrl := rowTo_len x cs.length a b
        have hsp := splice_int (rowTo x cs.length a b) b (rnd (arc x a b) 0 60) (by omega)
        have g1 : (b : Int) < cs.length + 1 := by omega
        refine pw_skip (pw_seq (pw_block ?_))
        repeat refine pw_seq ?_
        refine pw_N [] (by rfl) (by rfl) fun K Gc Gh hK hGc hGh X hX0 hX => ?_
        simp -implicitDefEqProofs [hX0, hX]
        try clear hX0 hX X
        intros
        refine hK _ _ _ ?_
        clear hK hGc hGh
        clear K Gc Gh
        by_cases hab : a = b
        · subst hab
          refine pw_cf (by simp) ?_
          refine pw_skip ?_
          repeat refine pw_seq ?_
          refine pw_N [] (by rfl) (by rfl) fun K Gc Gh hK hGc hGh X hX0 hX => ?_
          simp -implicitDefEqProofs [hX0, hX]
          try clear hX0 hX X
          intros
          refine hK _ _ _ ?_
          clear hK hGc hGh
          clear K Gc Gh
          exact again_mk (a + 1, v0, v1, v2, v3, v4, v5) [] (by simp; omega) (by simp; omega) (by simp [wrN a (by omega)]) rfl (by simp [hdy, rowTo_eq])
        · have hab' : ((a : Int) != b) = true := by simp; omega
          refine pw_ct (by simp; omega) ?_
          repeat refine pw_seq ?_
          refine pw_N [] (by rfl) (by rfl) fun K Gc Gh hK hGc hGh X hX0 hX => ?_
          simp -implicitDefEqProofs [hX]
          try clear hX0 hX X
          refine hGc _ _ _ _ _ _ _ fun hsuf => ((arcR_ok x a b _).mono ?_).v
          rintro _ _ ⟨rfl, rfl⟩
          refine ⟨_, _, rfl, ?_⟩
          clear hGc hGh
          clear Gc Gh
          refine xs_go hsuf (D := []) (by rfl) fun Gc Gh hGc hGh X hX0 hX => ?_
          simp -implicitDefEqProofs [hX]
          try clear hX0 hX X
          refine hGc _ _ _ _ _ _ _ fun hsuf => ((round_ok _ _ _ (arc_64 hx _ _) (by omega) (by omega) (by omega) _).mono ?_).v
          rintro _ _ ⟨rfl, rfl⟩
          refine ⟨_, _, rfl, ?_⟩
          clear hGc hGh
          clear Gc Gh
          refine xs_go hsuf (D := []) (by rfl) fun Gc Gh hGc hGh X hX0 hX => ?_
          simp -implicitDefEqProofs [hX0, hX, g1, hsp, hrl]
          try clear hX0 hX X
          refine ⟨by omega, ?_⟩
          intros
          refine hK _ _ _ ?_
          clear hK hGc hGh
          clear K Gc Gh
          repeat refine pw_seq ?_
          refine pw_N [] (by rfl) (by rfl) fun K Gc Gh hK hGc hGh X hX0 hX => ?_
          simp -implicitDefEqProofs [hX0, hX]
          try clear hX0 hX X
          intros
          refine hK _ _ _ ?_
          clear hK hGc hGh
          clear K Gc Gh
          exact again_mk (b + 1, v0, v1, v2, v3, v4, v5) [] (by simp; omega) (by simp; omega) (by simp [wrN b (by omega)]) rfl (by simp [hdy, rowTo_ne x _ _ _ (show b ≤ cs.length by omega) hab])
      · simp at hc2
        have hb' : b = cs.length + 1 := by omega
        subst hb'
        refine pw_exit ?_
        have hrl := rowTo_len x cs.length a (cs.length + 1)
        refine pw_frz 5 rfl ?_
        repeat refine pw_seq ?_
        refine pw_N [] (by rfl) (by rfl) fun K Gc Gh hK hGc hGh X hX0 hX => ?_
        simp -implicitDefEqProofs [hX0, hX, hrl]
        try clear hX0 hX X
        refine ⟨by omega, ?_⟩
        intros
        refine hK _ _ _ ?_
        clear hK hGc hGh
        clear K Gc Gh
        repeat refine pw_seq ?_
        refine pw_N [] (by rfl) (by rfl) fun K Gc Gh hK hGc hGh X hX0 hX => ?_
        simp -implicitDefEqProofs [hX0, hX]
        try clear hX0 hX X
        intros
        refine hK _ _ _ ?_
        clear hK hGc hGh
        clear K Gc Gh
        have hgl : (goodRow x cs.length a).length = cs.length + 1 := by rw [← rowTo_all, hrl]
        exact again_mk (a + 1, out ++ [goodRow x cs.length a], v0, v1, v2, v3, v4 + 1) [.dead] (by simp [List.range_succ, ho]; omega) (by simp; omega) (by simp [wrN a (by omega)]) rfl (by simp [hdy, rowTo_all, hgl])
    · simp at hc
      have ha' : a = cs.length + 1 := by omega
      subst ha'
      refine pw_exit ?_
      repeat refine pw_seq ?_
      refine pw_N [] (by rfl) (by rfl) fun K Gc Gh hK hGc hGh X hX0 hX => ?_
      simp -implicitDefEqProofs [hX0, hX]
      try clear hX0 hX X
      intros
      refine hK _ _ _ ?_
      clear hK hGc hGh
      clear K Gc Gh
      refine pw_frz 3 rfl ?_
      refine pw_frz 4 rfl ?_
      repeat refine pw_seq ?_
      exact pw_ret (ret_pure hd (by simp; rfl) (by simp [ho, hdy]))

end Go.Proofs.YtafcjklojnhbnaaGreat.Pv
