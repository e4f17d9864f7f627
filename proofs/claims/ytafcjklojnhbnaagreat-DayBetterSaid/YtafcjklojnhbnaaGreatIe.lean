/- Whether a tour may be. -/
import Derived.Test.YtafcjklojnhbnaaGreatId
namespace Go.Proofs.YtafcjklojnhbnaaGreat.Pv
open Go

def goodS (x : Inst) (s : Stop) : Bool := decide (0 ≤ s.c ∧ s.c < x.cust.length ∧ 1 ≤ s.q ∧ s.q ≤ 2147483648)
def stopsB (x : Inst) (t : Tour) : Bool := t.all (goodS x) && !t.isEmpty
def mayT (x : Inst) (t : Tour) : Int :=
  if stopsB x t = false then 1 else if ¬ (t.map (·.c)).Nodup then 11 else if x.cap < W (loadZ t) then 12 else if x.len < W (wayZ x (t.map (·.c))) then 13 else 0

theorem mayT_bad {x : Inst} {t : Tour} {s : Stop} {k : Nat} (h : t[k]? = some s) (hb : ¬ (0 ≤ s.c ∧ s.c < x.cust.length ∧ 1 ≤ s.q ∧ s.q ≤ 2147483648)) : mayT x t = 1 := by
  unfold mayT
  rw [if_pos]
  unfold stopsB
  have : t.all (goodS x) = false := by
    rw [List.all_eq_false]; exact ⟨s, List.mem_of_getElem? h, by simp [goodS]; omega⟩
  rw [this]; rfl

theorem all_snoc {x : Inst} {t : Tour} {k : Nat} {s : Stop} (h : (t.take k).all (goodS x) = true) (ht : t.take (k + 1) = t.take k ++ [s]) (hs : 0 ≤ s.c ∧ s.c < x.cust.length ∧ 1 ≤ s.q ∧ s.q ≤ 2147483648) : (t.take (k + 1)).all (goodS x) = true := by
  rw [ht, List.all_append, h]; simp [goodS]; omega

theorem small_of {x : Inst} {t : Tour} (hx : x.cust.length ≤ 1048576) (h : t.all (goodS x) = true) : ∀ s ∈ t, small s.c := by
  intro s hs
  have := List.all_eq_true.1 h s hs
  simp [goodS] at this
  unfold small; omega

set_option maxRecDepth 10000 in
theorem mayR_ok (x : Inst) (t : Tour) (hx : x.cust.length ≤ 1048576) (ht : t.length ≤ 1048576) : Pure Tryz.prog 35 [.agg (instL x), .agg [L t]] (I (mayT x t)) := by
  refine pure_enter Tryz.func35 (by rfl) rfl Tryz.ntmps35 (congrArg Array.toList Tryz.results35) (by simp) fun S nx hd => ?_
  repeat refine pw_seq ?_
  refine pw_N [] (by rfl) (by rfl) fun K Gc Gh hK hGc hGh X hX0 hX => ?_
  simp -implicitDefEqProofs [hX0, hX]
  try clear hX0 hX X
  intro v0 v1
  refine hK _ _ _ ?_
  clear hK hGc hGh
  clear K Gc Gh
  by_cases he : t = []
  · subst he
    repeat refine pw_seq ?_
    refine pw_N [] (by rfl) (by rfl) fun K Gc Gh hK hGc hGh X hX0 hX => ?_
    simp -implicitDefEqProofs [hX0, hX]
    try clear hX0 hX X
    intros
    refine hK _ _ _ ?_
    clear hK hGc hGh
    clear K Gc Gh
    repeat refine pw_seq ?_
    refine pw_ct rfl ?_
    repeat refine pw_seq ?_
    refine pw_N [] (by rfl) (by rfl) fun K Gc Gh hK hGc hGh X hX0 hX => ?_
    simp -implicitDefEqProofs [hX0, hX]
    try clear hX0 hX X
    intros
    refine hK _ _ _ ?_
    clear hK hGc hGh
    clear K Gc Gh
    repeat refine pw_seq ?_
    exact pw_ret (ret_pure hd rfl rfl)
  have he' : ¬ t.length = 0 := by simpa using he
  repeat refine pw_seq ?_
  refine pw_N [] (by rfl) (by rfl) fun K Gc Gh hK hGc hGh X hX0 hX => ?_
  simp -implicitDefEqProofs [hX0, hX, he']
  try clear hX0 hX X
  intros
  refine hK _ _ _ ?_
  clear hK hGc hGh
  clear K Gc Gh
  repeat refine pw_seq ?_
  refine pw_cf rfl ?_
  refine pw_skip ?_
  repeat refine pw_seq ?_
  refine pw_N [] (by rfl) (by rfl) fun K Gc Gh hK hGc hGh X hX0 hX => ?_
  simp -implicitDefEqProofs [hX0, hX]
  try clear hX0 hX X
  intros
  refine hK _ _ _ ?_
  clear hK hGc hGh
  clear K Gc Gh
  repeat refine pw_seq ?_
  refine pw_block (pw_loopL (fun s : Nat × Nat × Nat => s.1 ≤ t.length ∧ (t.take s.1).all (goodS x) = true) (fun (k, v, v') => [(2, .ptr nx v 0), (3, .ptr (nx + 1) v' 0), (5, I k)]) (fun (k, v, v') => [.cells v 25 (instL x), .cells v' 66 [L t]]) (fun s => t.length - s.1) (0, v0, v1) [] (by simp) (by simp) (by simp) ?_)
  rintro ⟨k, v0, v1⟩ ⟨hk, ha⟩
  simp only at hk ha ⊢
  repeat refine pw_seq ?_
  refine pw_N [] (by rfl) (by rfl) fun K Gc Gh hK hGc hGh X hX0 hX => ?_
  simp -implicitDefEqProofs [hX0, hX]
  try clear hX0 hX X
  intros
  refine hK _ _ _ ?_
  clear hK hGc hGh
  clear K Gc Gh
  repeat refine pw_seq ?_
  refine pw_cond rfl (fun hc => ?_) (fun hc => ?_)
  · simp at hc
    obtain ⟨s, tl, a1, a2, a3, e1, e0⟩ := el 2 rfl t k hc
    refine pw_skip (pw_seq (pw_block ?_))
    repeat refine pw_seq ?_
    refine pw_N [] (by rfl) (by rfl) fun K Gc Gh hK hGc hGh X hX0 hX => ?_
    simp -implicitDefEqProofs [hX0, hX, hc, e0]
    try clear hX0 hX X
    intros
    refine hK _ _ _ ?_
    clear hK hGc hGh
    clear K Gc Gh
    by_cases h1 : s.c < 0
    · repeat refine pw_seq ?_
      refine pw_N [(3, 27), (11, 35), (16, 40)] (by rfl) (by rfl) fun K Gc Gh hK hGc hGh X hX0 hX => ?_
      simp -implicitDefEqProofs [hX0, hX, h1, undef]
      try clear hX0 hX X
      intros
      refine hK _ _ _ ?_
      clear hK hGc hGh
      clear K Gc Gh
      repeat refine pw_seq ?_
      refine pw_ct rfl ?_
      repeat refine pw_seq ?_
      refine pw_N [] (by rfl) (by rfl) fun K Gc Gh hK hGc hGh X hX0 hX => ?_
      simp -implicitDefEqProofs [hX0, hX]
      try clear hX0 hX X
      intros
      refine hK _ _ _ ?_
      clear hK hGc hGh
      clear K Gc Gh
      repeat refine pw_seq ?_
      exact pw_ret (ret_pure hd rfl (by rw [mayT_bad a1 (by omega)]; rfl))
    by_cases h2 : (x.cust.length : Int) ≤ s.c
    · repeat refine pw_seq ?_
      refine pw_N [(3, 27), (11, 35), (16, 40)] (by rfl) (by rfl) fun K Gc Gh hK hGc hGh X hX0 hX => ?_
      simp -implicitDefEqProofs [hX0, hX, h2, h1, undef]
      try clear hX0 hX X
      intros
      refine hK _ _ _ ?_
      clear hK hGc hGh
      clear K Gc Gh
      repeat refine pw_seq ?_
      refine pw_ct rfl ?_
      repeat refine pw_seq ?_
      refine pw_N [] (by rfl) (by rfl) fun K Gc Gh hK hGc hGh X hX0 hX => ?_
      simp -implicitDefEqProofs [hX0, hX]
      try clear hX0 hX X
      intros
      refine hK _ _ _ ?_
      clear hK hGc hGh
      clear K Gc Gh
      repeat refine pw_seq ?_
      exact pw_ret (ret_pure hd rfl (by rw [mayT_bad a1 (by omega)]; rfl))
    by_cases h3 : s.q < 1
    · repeat refine pw_seq ?_
      refine pw_N [(3, 27), (11, 35), (16, 40)] (by rfl) (by rfl) fun K Gc Gh hK hGc hGh X hX0 hX => ?_
      simp -implicitDefEqProofs [hX0, hX, h3, h1, h2, undef]
      try clear hX0 hX X
      intros
      refine hK _ _ _ ?_
      clear hK hGc hGh
      clear K Gc Gh
      repeat refine pw_seq ?_
      refine pw_ct rfl ?_
      repeat refine pw_seq ?_
      refine pw_N [] (by rfl) (by rfl) fun K Gc Gh hK hGc hGh X hX0 hX => ?_
      simp -implicitDefEqProofs [hX0, hX]
      try clear hX0 hX X
      intros
      refine hK _ _ _ ?_
      clear hK hGc hGh
      clear K Gc Gh
      repeat refine pw_seq ?_
      exact pw_ret (ret_pure hd rfl (by rw [mayT_bad a1 (by omega)]; rfl))
    by_cases h4 : 2147483648 < s.q
    · repeat refine pw_seq ?_
      refine pw_N [(3, 27), (11, 35), (16, 40)] (by rfl) (by rfl) fun K Gc Gh hK hGc hGh X hX0 hX => ?_
      simp -implicitDefEqProofs [hX0, hX, h4, h1, h2, h3]
      try clear hX0 hX X
      intros
      refine hK _ _ _ ?_
      clear hK hGc hGh
      clear K Gc Gh
      repeat refine pw_seq ?_
      refine pw_ct rfl ?_
      repeat refine pw_seq ?_
      refine pw_N [] (by rfl) (by rfl) fun K Gc Gh hK hGc hGh X hX0 hX => ?_
      simp -implicitDefEqProofs [hX0, hX]
      try clear hX0 hX X
      intros
      refine hK _ _ _ ?_
      clear hK hGc hGh
      clear K Gc Gh
      repeat refine pw_seq ?_
      exact pw_ret (ret_pure hd rfl (by rw [mayT_bad a1 (by omega)]; rfl))
    repeat refine pw_seq ?_
    refine pw_N [(3, 27), (11, 35), (16, 40)] (by rfl) (by rfl) fun K Gc Gh hK hGc hGh X hX0 hX => ?_
    simp -implicitDefEqProofs [hX0, hX, h1, h2, h3, h4]
    try clear hX0 hX X
    intros
    refine hK _ _ _ ?_
    clear hK hGc hGh
    clear K Gc Gh
    repeat refine pw_seq ?_
    refine pw_cf rfl ?_
    refine pw_skip ?_
    repeat refine pw_seq ?_
    refine pw_N [] (by rfl) (by rfl) fun K Gc Gh hK hGc hGh X hX0 hX => ?_
    simp -implicitDefEqProofs [hX0, hX]
    try clear hX0 hX X
    intros
    refine hK _ _ _ ?_
    clear hK hGc hGh
    clear K Gc Gh
    exact again_mk (k + 1, v0, v1) [_] ⟨hc, all_snoc ha a3 (by omega)⟩ (by simp; omega) (by simp [wrN k (by omega)]) rfl (by simp; rfl)
  · simp at hc
    have hk' : k = t.length := by omega
    subst hk'
    rw [List.take_length] at ha
    have hst : stopsB x t = true := by unfold stopsB; rw [ha]; simp [he]
    refine pw_exit ?_
    repeat refine pw_seq ?_
    refine pw_N [] (by rfl) (by rfl) fun K Gc Gh hK hGc hGh X hX0 hX => ?_
    simp -implicitDefEqProofs [hX]
    try clear hX0 hX X
    refine hGc _ _ _ _ _ _ _ fun hsuf => ((custR_ok _ ht _).mono ?_).v
    rintro _ _ ⟨rfl, rfl⟩
    refine ⟨_, _, rfl, ?_⟩
    clear hGc hGh
    clear Gc Gh
    refine xs_go hsuf (D := []) (by rfl) fun Gc Gh hGc hGh X hX0 hX => ?_
    simp -implicitDefEqProofs [hX0, hX]
    try clear hX0 hX X
    intros
    refine hK _ _ _ ?_
    clear hK hGc hGh
    clear K Gc Gh
    repeat refine pw_seq ?_
    refine pw_N [] (by rfl) (by rfl) fun K Gc Gh hK hGc hGh X hX0 hX => ?_
    simp -implicitDefEqProofs [hX]
    try clear hX0 hX X
    refine hGc _ _ _ _ _ _ _ fun hsuf => ((twice_ok _ (by simpa using ht) _).mono ?_).v
    rintro _ _ ⟨rfl, rfl⟩
    refine ⟨_, _, rfl, ?_⟩
    clear hGc hGh
    clear Gc Gh
    refine xs_go hsuf (D := []) (by rfl) fun Gc Gh hGc hGh X hX0 hX => ?_
    simp -implicitDefEqProofs [hX0]
    try clear hX0 hX X
    intros
    refine hK _ _ _ ?_
    clear hK hGc hGh
    clear K Gc Gh
    by_cases hn : (t.map (·.c)).Nodup
    · refine pw_cf (by simp [hn]) ?_
      refine pw_skip ?_
      repeat refine pw_seq ?_
      refine pw_Y none (Row.pures [0, 1, 2, 3, 4] .done) mixed (by rfl) (by rfl) (by rfl) fun K Gp Gc Gh hK hGp hGc hGh X hX0 hX1 hX2 hX => ?_
      simp -implicitDefEqProofs [hX2]
      try clear hX0 hX1 hX2 hX X
      refine hGp _ _ _ _ _ _ _ _ (loadR_ok _ ht) ?_
      clear hGp hGc hGh
      clear Gp Gc Gh
      refine px_go fun Gp Gc Gh hGp hGc hGh X hX0 hX1 hX2 hX => ?_
      simp -implicitDefEqProofs [hX0, hX2]
      try clear hX0 hX1 hX2 hX X
      refine hK _ _ _ ?_
      clear hK hGp hGc hGh
      clear K Gp Gc Gh
      repeat refine pw_seq ?_
      refine pw_cond rfl (fun h5 => ?_) (fun h5 => ?_)
      · simp at h5
        repeat refine pw_seq ?_
        refine pw_N [] (by rfl) (by rfl) fun K Gc Gh hK hGc hGh X hX0 hX => ?_
        simp -implicitDefEqProofs [hX0, hX]
        try clear hX0 hX X
        intros
        refine hK _ _ _ ?_
        clear hK hGc hGh
        clear K Gc Gh
        repeat refine pw_seq ?_
        exact pw_ret (ret_pure hd rfl (by simp [mayT, hst, hn, h5]))
      · simp at h5
        refine pw_skip ?_
        repeat refine pw_seq ?_
        refine pw_Y none (Row.pures [0, 1, 2, 3, 4, 5] .done) mixed (by rfl) (by rfl) (by rfl) fun K Gp Gc Gh hK hGp hGc hGh X hX0 hX1 hX2 hX => ?_
        simp -implicitDefEqProofs [hX2]
        try clear hX0 hX1 hX2 hX X
        refine hGp _ _ _ _ _ _ _ _ (wayR_ok _ _ (by simpa using ht) (by simpa using small_of hx ha)) ?_
        clear hGp hGc hGh
        clear Gp Gc Gh
        refine px_go fun Gp Gc Gh hGp hGc hGh X hX0 hX1 hX2 hX => ?_
        simp -implicitDefEqProofs [hX0, hX2]
        try clear hX0 hX1 hX2 hX X
        refine hK _ _ _ ?_
        clear hK hGp hGc hGh
        clear K Gp Gc Gh
        repeat refine pw_seq ?_
        refine pw_cond rfl (fun h6 => ?_) (fun h6 => ?_)
        · simp at h6
          repeat refine pw_seq ?_
          refine pw_N [] (by rfl) (by rfl) fun K Gc Gh hK hGc hGh X hX0 hX => ?_
          simp -implicitDefEqProofs [hX0, hX]
          try clear hX0 hX X
          intros
          refine hK _ _ _ ?_
          clear hK hGc hGh
          clear K Gc Gh
          repeat refine pw_seq ?_
          exact pw_ret (ret_pure hd rfl (by simp [mayT, hst, hn, h6, Int.not_lt.2 h5]))
        · simp at h6
          refine pw_skip ?_
          repeat refine pw_seq ?_
          refine pw_N [] (by rfl) (by rfl) fun K Gc Gh hK hGc hGh X hX0 hX => ?_
          simp -implicitDefEqProofs [hX0, hX]
          try clear hX0 hX X
          intros
          refine hK _ _ _ ?_
          clear hK hGc hGh
          clear K Gc Gh
          repeat refine pw_seq ?_
          exact pw_ret (ret_pure hd rfl (by simp [mayT, hst, hn, Int.not_lt.2 h6, Int.not_lt.2 h5]))
    · refine pw_ct (by simp [hn]) ?_
      repeat refine pw_seq ?_
      refine pw_N [] (by rfl) (by rfl) fun K Gc Gh hK hGc hGh X hX0 hX => ?_
      simp -implicitDefEqProofs [hX0, hX]
      try clear hX0 hX X
      intros
      refine hK _ _ _ ?_
      clear hK hGc hGh
      clear K Gc Gh
      repeat refine pw_seq ?_
      exact pw_ret (ret_pure hd rfl (by simp [mayT, hst, hn]))

end Go.Proofs.YtafcjklojnhbnaaGreat.Pv
