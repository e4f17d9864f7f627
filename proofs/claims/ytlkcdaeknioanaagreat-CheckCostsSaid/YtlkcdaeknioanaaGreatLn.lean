/- tranterref09.Brings, tranterref08.Visits. -/
import Derived.Test.YtlkcdaeknioanaaGreatLm
namespace Go.Proofs.YtlkcdaeknioanaaGreat.Pv
open Go

def bringsTo (v : List Visit) (k : Nat) : List Int := (List.range k).map fun (d : Nat) => ((v.filter fun s => decide (s.d = (d : Int))).map (·.q)).sum

set_option maxRecDepth 20000 in
theorem bringsR_ok (v : List Visit) (n : Int) (hv : VisOk v) : Pure Tryz.prog 40 [L v, I n] (L (bringsV v n)) := by
  have hvn := hv.n
  have hres : bringsV v n = bringsTo v (min (max n 0) 64).toNat := rfl
  rw [hres]
  refine pure_enter Tryz.func40 (by rfl) rfl Tryz.ntmps40 (congrArg Array.toList Tryz.results40) (by simp) fun S nx hd => ?_
  repeat refine pw_seq ?_
  refine pw_N [] (by rfl) (by rfl) fun K Gc Gh hK hGc hGh X hX0 hX => ?_
  simp -implicitDefEqProofs [hX0, hX]
  try clear hX0 hX X
  intros
  refine hK _ _ _ ?_
  clear hK hGc hGh
  clear K Gc Gh
  repeat refine pw_seq ?_
  refine pw_N [] (by rfl) (by rfl) fun K Gc Gh hK hGc hGh X hX0 hX => ?_
  simp -implicitDefEqProofs [hX0, hX]
  try clear hX0 hX X
  intros
  refine hK _ _ _ ?_
  clear hK hGc hGh
  clear K Gc Gh
  repeat refine pw_seq ?_
  refine pw_joinK (nx := nx) (σ := Unit) (fun _ => True) (fun _ => [(0, L v), (1, I (min n 64))]) (fun _ => S) (fun _ => []) ?_ ?_
  · by_cases h : (64 : Int) < n
    · refine pw_ct (by simp [h]) ?_
      repeat refine pw_seq ?_
      refine pw_N [] (by rfl) (by rfl) fun K Gc Gh hK hGc hGh X hX0 hX => ?_
      simp -implicitDefEqProofs [hX0, hX]
      try clear hX0 hX X
      intros
      refine hK _ _ _ ?_
      clear hK hGc hGh
      clear K Gc Gh
      exact at_mk () [] trivial (by simp; omega) rfl (by simp)
    · refine pw_cf (by simp; omega) ?_
      refine pw_skip ?_
      exact at_mk () [] trivial (by simp; omega) rfl (by simp)
  intro _ _
  generalize hm : (min (max n 0) 64).toNat = m
  have hm64 : m ≤ 64 := by omega
  have hcmp : ∀ k : Nat, ((k : Int) < min n 64) = (k < m) := fun k => propext ⟨fun h => by omega, fun h => by omega⟩
  repeat refine pw_seq ?_
  refine pw_N [] (by rfl) (by rfl) fun K Gc Gh hK hGc hGh X hX0 hX => ?_
  simp -implicitDefEqProofs [hX0, hX]
  try clear hX0 hX X
  intros
  refine hK _ _ _ ?_
  clear hK hGc hGh
  clear K Gc Gh
  refine pw_nilX 5 3 1 rfl fun v1 => ?_
  repeat refine pw_seq ?_
  refine pw_N [] (by rfl) (by rfl) fun K Gc Gh hK hGc hGh X hX0 hX => ?_
  simp -implicitDefEqProofs [hX0, hX]
  try clear hX0 hX X
  intros
  refine hK _ _ _ ?_
  clear hK hGc hGh
  clear K Gc Gh
  repeat refine pw_seq ?_
  refine pw_block (pw_loopL (fun s : Nat × List Int × Nat => s.1 ≤ m ∧ s.2.1 = bringsTo v s.1) (fun (k, out, v1) => [(0, L v), (1, I (min n 64)), (5, .sl nx v1 1 0 out.length), (6, I k)]) (fun (k, out, v1) => [.cells v1 3 (out.flatMap Enc.enc)]) (fun s => m - s.1) (0, [], v1) [] (by simp [bringsTo]) (by simp) (by simp) ?_)
  rintro ⟨k, out, v1⟩ ⟨hk, ho⟩
  simp only at hk ho ⊢
  have hol : out.length = k := by rw [ho]; simp [bringsTo]
  by_cases hc : k < m
  · repeat refine pw_seq ?_
    refine pw_N [] (by rfl) (by rfl) fun K Gc Gh hK hGc hGh X hX0 hX => ?_
    simp -implicitDefEqProofs [hX0, hX, hcmp, hc]
    try clear hX0 hX X
    intros
    refine hK _ _ _ ?_
    clear hK hGc hGh
    clear K Gc Gh
    repeat refine pw_seq ?_
    refine pw_ct (by simp) ?_
    refine pw_skip (pw_seq (pw_block ?_))
    repeat refine pw_seq ?_
    refine pw_N [] (by rfl) (by rfl) fun K Gc Gh hK hGc hGh X hX0 hX => ?_
    simp -implicitDefEqProofs [hX0, hX]
    try clear hX0 hX X
    intros
    refine hK _ _ _ ?_
    clear hK hGc hGh
    clear K Gc Gh
    repeat refine pw_seq ?_
    refine pw_N [] (by rfl) (by rfl) fun K Gc Gh hK hGc hGh X hX0 hX => ?_
    simp -implicitDefEqProofs [hX0, hX]
    try clear hX0 hX X
    intros
    refine hK _ _ _ ?_
    clear hK hGc hGh
    clear K Gc Gh
    repeat refine pw_seq ?_
    refine pw_joinK (nx := nx) (σ := Nat) (fun _ => True) (fun v1 => [(0, L v), (1, I (min n 64)), (5, .sl nx v1 1 0 out.length), (6, I k), (7, I ((v.filter fun s => decide (s.d = (k : Int))).map (·.q)).sum)]) (fun _ => S) (fun v1 => [.cells v1 3 (out.flatMap Enc.enc)]) ?_ ?_
    · refine pw_block (pw_loopL (fun s : Nat => s ≤ v.length) (fun j => [(0, L v), (1, I (min n 64)), (5, .sl nx v1 1 0 out.length), (6, I k), (7, I (((v.take j).filter fun s => decide (s.d = (k : Int))).map (·.q)).sum), (8, I j)]) (fun _ => [.cells v1 3 (out.flatMap Enc.enc)]) (fun s => v.length - s) 0 [] (by simp) (by simp) (by simp) ?_)
      rintro j hj
      repeat refine pw_seq ?_
      refine pw_N [] (by rfl) (by rfl) fun K Gc Gh hK hGc hGh X hX0 hX => ?_
      simp -implicitDefEqProofs [hX0, hX]
      try clear hX0 hX X
      intros
      refine hK _ _ _ ?_
      clear hK hGc hGh
      clear K Gc Gh
      repeat refine pw_seq ?_
      refine pw_cond rfl (fun hc2 => ?_) (fun hc2 => ?_)
      · simp at hc2
        obtain ⟨s, tl, a1, a2, a3, e1, e0⟩ := el 2 rfl v j hc2
        have hsq := hv.q s (List.mem_of_getElem? a1)
        have hlj : (v.take j).length ≤ 1048576 := by simp; omega
        have hle := filt_le (v.take j) (fun s => decide (s.d = (k : Int))) (fun x hx => hv.q x (List.mem_of_mem_take hx))
        have e11 := e1 1 (by omega)
        refine pw_skip (pw_seq (pw_block ?_))
        by_cases h : s.d = (k : Int)
        · have hsum : (((v.take j).filter fun s => decide (s.d = (k : Int))).map (·.q)).sum + s.q = (((v.take (j + 1)).filter fun s => decide (s.d = (k : Int))).map (·.q)).sum := by rw [a3]; simp [h]
          repeat refine pw_seq ?_
          refine pw_N [] (by rfl) (by rfl) fun K Gc Gh hK hGc hGh X hX0 hX => ?_
          simp -implicitDefEqProofs [hX0, hX, e0, hc2, h]
          try clear hX0 hX X
          intros
          refine hK _ _ _ ?_
          clear hK hGc hGh
          clear K Gc Gh
          repeat refine pw_seq ?_
          refine pw_ct (by simp) ?_
          repeat refine pw_seq ?_
          refine pw_N [] (by rfl) (by rfl) fun K Gc Gh hK hGc hGh X hX0 hX => ?_
          simp -implicitDefEqProofs [hX, e11, hc2]
          try clear hX0 hX X
          refine hGc _ _ _ _ _ _ _ fun hsuf => ((satR_ok _ _ hle.1 hsq.1 (by omega) _).mono ?_).v
          rintro _ _ ⟨rfl, rfl⟩
          refine ⟨_, _, rfl, ?_⟩
          clear hGc hGh
          clear Gc Gh
          refine xs_go hsuf (D := []) (by rfl) fun Gc Gh hGc hGh X hX0 hX => ?_
          simp -implicitDefEqProofs [hX0, hX]
          try clear hX0 hX X
          intros
          refine hK _ _ _ ?_
          clear hK hGc hGh
          clear K Gc Gh
          repeat refine pw_seq ?_
          refine pw_N [] (by rfl) (by rfl) fun K Gc Gh hK hGc hGh X hX0 hX => ?_
          simp -implicitDefEqProofs [hX0, hX]
          try clear hX0 hX X
          intros
          refine hK _ _ _ ?_
          clear hK hGc hGh
          clear K Gc Gh
          exact again_mk (j + 1) [] hc2 (by omega) (by simp [wrN j (by omega)]; exact hsum) rfl (by simp)
        · have hsum : (((v.take j).filter fun s => decide (s.d = (k : Int))).map (·.q)).sum = (((v.take (j + 1)).filter fun s => decide (s.d = (k : Int))).map (·.q)).sum := by rw [a3]; simp [h]
          repeat refine pw_seq ?_
          refine pw_N [] (by rfl) (by rfl) fun K Gc Gh hK hGc hGh X hX0 hX => ?_
          simp -implicitDefEqProofs [hX0, hX, e0, hc2, h]
          try clear hX0 hX X
          intros
          refine hK _ _ _ ?_
          clear hK hGc hGh
          clear K Gc Gh
          repeat refine pw_seq ?_
          refine pw_cf (by simp) ?_
          refine pw_skip ?_
          repeat refine pw_seq ?_
          refine pw_N [] (by rfl) (by rfl) fun K Gc Gh hK hGc hGh X hX0 hX => ?_
          simp -implicitDefEqProofs [hX0, hX]
          try clear hX0 hX X
          intros
          refine hK _ _ _ ?_
          clear hK hGc hGh
          clear K Gc Gh
          exact again_mk (j + 1) [] hc2 (by omega) (by simp [wrN j (by omega)]; exact hsum) rfl (by simp)
      · simp at hc2
        obtain rfl : j = v.length := by omega
        rw [List.take_length]
        exact pw_exit (at_mk v1 [] trivial (by simp) rfl (by simp))
    · intro v1 _
      repeat refine pw_seq ?_
      refine pw_N [] (by rfl) (by rfl) fun K Gc Gh hK hGc hGh X hX0 hX => ?_
      simp -implicitDefEqProofs [hX0, hX]
      try clear hX0 hX X
      refine ⟨by omega, ?_⟩
      intros
      refine hK _ _ _ ?_
      clear hK hGc hGh
      clear K Gc Gh
      repeat refine pw_seq ?_
      refine pw_N [] (by rfl) (by rfl) fun K Gc Gh hK hGc hGh X hX0 hX => ?_
      simp -implicitDefEqProofs [hX0, hX]
      try clear hX0 hX X
      intros
      refine hK _ _ _ ?_
      clear hK hGc hGh
      clear K Gc Gh
      exact again_mk (k + 1, out ++ [((v.filter fun s => decide (s.d = (k : Int))).map (·.q)).sum], v1 + 1) [] ⟨hc, by rw [ho]; simp [bringsTo, List.range_succ]⟩ (by simp; omega) (by simp [wrN k (by omega)]) rfl (by simp)
  · obtain rfl : k = m := by omega
    repeat refine pw_seq ?_
    refine pw_N [] (by rfl) (by rfl) fun K Gc Gh hK hGc hGh X hX0 hX => ?_
    simp -implicitDefEqProofs [hX0, hX, hcmp]
    try clear hX0 hX X
    intros
    refine hK _ _ _ ?_
    clear hK hGc hGh
    clear K Gc Gh
    repeat refine pw_seq ?_
    refine pw_cf (by simp) ?_
    refine pw_exit ?_
    repeat refine pw_seq ?_
    refine pw_N [] (by rfl) (by rfl) fun K Gc Gh hK hGc hGh X hX0 hX => ?_
    simp -implicitDefEqProofs [hX0, hX]
    try clear hX0 hX X
    intros
    refine hK _ _ _ ?_
    clear hK hGc hGh
    clear K Gc Gh
    refine pw_frz 0 rfl ?_
    repeat refine pw_seq ?_
    exact pw_ret (ret_pure hd (by simp; rfl) (by rw [ho]; simp [oneOf]))

set_option maxRecDepth 20000 in
theorem visitsR_ok (p : Plan) (c : Int) (hp : PlanOk p) : Pure Tryz.prog 41 [.agg [L p], I c] (L (visOf c (told 0 p))) := by
  have hlen := hp.told
  have ol : ∀ pre rest, told 0 p = pre ++ rest → (visOf c pre).length ≤ 1048576 := fun pre rest e => by
    have := visOf_len c pre
    have := congrArg List.length e
    simp at this; omega
  refine pure_enter Tryz.func41 (by rfl) rfl Tryz.ntmps41 (congrArg Array.toList Tryz.results41) (by simp) fun S nx hd => ?_
  repeat refine pw_seq ?_
  refine pw_N [] (by rfl) (by rfl) fun K Gc Gh hK hGc hGh X hX0 hX => ?_
  simp -implicitDefEqProofs [hX0, hX]
  try clear hX0 hX X
  intro v0
  refine hK _ _ _ ?_
  clear hK hGc hGh
  clear K Gc Gh
  repeat refine pw_seq ?_
  refine pw_N [] (by rfl) (by rfl) fun K Gc Gh hK hGc hGh X hX0 hX => ?_
  simp -implicitDefEqProofs [hX0, hX]
  try clear hX0 hX X
  intros
  refine hK _ _ _ ?_
  clear hK hGc hGh
  clear K Gc Gh
  refine pw_seq (pw_nilX 5 69 2 rfl fun v1 => ?_)
  repeat refine pw_seq ?_
  refine pw_N [] (by rfl) (by rfl) fun K Gc Gh hK hGc hGh X hX0 hX => ?_
  simp -implicitDefEqProofs [hX0, hX]
  try clear hX0 hX X
  intros
  refine hK _ _ _ ?_
  clear hK hGc hGh
  clear K Gc Gh
  repeat refine pw_seq ?_
  refine pw_block (pw_loopL (fun s : Nat × List (Stop × Nat) × Nat => s.1 ≤ p.length ∧ told 0 p = s.2.1 ++ told s.1 (p.drop s.1)) (fun (a, pre, v1) => [(1, I c), (2, .ptr nx v0 0), (5, .sl (nx + 1) v1 2 0 (visOf c pre).length), (6, I a)]) (fun (a, pre, v1) => [.cells v0 30 [L p], .cells v1 69 ((visOf c pre).flatMap Enc.enc)]) (fun s => p.length - s.1) (0, [], v1) [] (by simp) (by simp [visOf]) (by simp [visOf]) ?_)
  rintro ⟨a, pre, v1⟩ ⟨ha, hr⟩
  simp only at ha hr ⊢
  have hpn := hp.n
  repeat refine pw_seq ?_
  refine pw_N [] (by rfl) (by rfl) fun K Gc Gh hK hGc hGh X hX0 hX => ?_
  simp -implicitDefEqProofs [hX0, hX]
  try clear hX0 hX X
  intros
  refine hK _ _ _ ?_
  clear hK hGc hGh
  clear K Gc Gh
  repeat refine pw_seq ?_
  refine pw_cond rfl (fun hc => ?_) (fun hc => ?_)
  · simp at hc
    obtain ⟨d, tl, a1, a2, a3, e0⟩ := el1 rfl p a hc
    have hdm := List.mem_of_getElem? a1
    have hdl := hp.d d hdm
    rw [a2] at hr
    simp only [told] at hr
    refine pw_skip (pw_seq (pw_block ?_))
    repeat refine pw_seq ?_
    refine pw_N [] (by rfl) (by rfl) fun K Gc Gh hK hGc hGh X hX0 hX => ?_
    simp -implicitDefEqProofs [hX0, hX]
    try clear hX0 hX X
    intros
    refine hK _ _ _ ?_
    clear hK hGc hGh
    clear K Gc Gh
    repeat refine pw_seq ?_
    refine pw_block (pw_loopL (fun s : Nat × List (Stop × Nat) × Nat => s.1 ≤ d.length ∧ told 0 p = s.2.1 ++ ((d.drop s.1).flatten.map (·, a) ++ told (a + 1) (p.drop (a + 1)))) (fun (b, pre, v1) => [(1, I c), (2, .ptr nx v0 0), (5, .sl (nx + 1) v1 2 0 (visOf c pre).length), (6, I a), (7, I b)]) (fun (b, pre, v1) => [.cells v0 30 [L p], .cells v1 69 ((visOf c pre).flatMap Enc.enc)]) (fun s => d.length - s.1) (0, pre, v1) [] (by simp [hr]) (by simp) (by simp) ?_)
    rintro ⟨b, pre, v1⟩ ⟨hb, hr⟩
    simp only at hb hr ⊢
    repeat refine pw_seq ?_
    refine pw_N [] (by rfl) (by rfl) fun K Gc Gh hK hGc hGh X hX0 hX => ?_
    simp -implicitDefEqProofs [hX0, hX, e0, hc]
    try clear hX0 hX X
    intros
    refine hK _ _ _ ?_
    clear hK hGc hGh
    clear K Gc Gh
    repeat refine pw_seq ?_
    refine pw_cond rfl (fun hc2 => ?_) (fun hc2 => ?_)
    · simp at hc2
      obtain ⟨t, tl2, b1, b2, b3, e2⟩ := el1 rfl d b hc2
      have htl := hp.t d hdm t (List.mem_of_getElem? b1)
      rw [b2] at hr
      simp only [List.flatten_cons, List.map_append, List.append_assoc] at hr
      refine pw_skip (pw_seq (pw_block ?_))
      repeat refine pw_seq ?_
      refine pw_N [] (by rfl) (by rfl) fun K Gc Gh hK hGc hGh X hX0 hX => ?_
      simp -implicitDefEqProofs [hX0, hX, e0, hc, e2, hc2]
      try clear hX0 hX X
      intros
      refine hK _ _ _ ?_
      clear hK hGc hGh
      clear K Gc Gh
      repeat refine pw_seq ?_
      refine pw_N [] (by rfl) (by rfl) fun K Gc Gh hK hGc hGh X hX0 hX => ?_
      simp -implicitDefEqProofs [hX0, hX]
      try clear hX0 hX X
      intros
      refine hK _ _ _ ?_
      clear hK hGc hGh
      clear K Gc Gh
      repeat refine pw_seq ?_
      refine pw_block (pw_loopL (fun s : Nat × List (Stop × Nat) × Nat => s.1 ≤ t.length ∧ told 0 p = s.2.1 ++ ((t.drop s.1).map (·, a) ++ ((d.drop (b + 1)).flatten.map (·, a) ++ told (a + 1) (p.drop (a + 1))))) (fun (j, pre, v1) => [(1, I c), (2, .ptr nx v0 0), (5, .sl (nx + 1) v1 2 0 (visOf c pre).length), (6, I a), (7, I b), (8, L t), (9, I j)]) (fun (j, pre, v1) => [.cells v0 30 [L p], .cells v1 69 ((visOf c pre).flatMap Enc.enc)]) (fun s => t.length - s.1) (0, pre, v1) [] (by simp [hr]) (by simp) (by simp) ?_)
      rintro ⟨j, pre, v1⟩ ⟨hj, hr⟩
      simp only at hj hr ⊢
      repeat refine pw_seq ?_
      refine pw_N [] (by rfl) (by rfl) fun K Gc Gh hK hGc hGh X hX0 hX => ?_
      simp -implicitDefEqProofs [hX0, hX]
      try clear hX0 hX X
      intros
      refine hK _ _ _ ?_
      clear hK hGc hGh
      clear K Gc Gh
      repeat refine pw_seq ?_
      refine pw_cond rfl (fun hc3 => ?_) (fun hc3 => ?_)
      · simp at hc3
        obtain ⟨s, tl3, c1, c2, c3, e4, e3⟩ := el 2 rfl t j hc3
        have e31 := e4 1 (by omega)
        rw [c2] at hr
        simp only [List.map_cons, List.cons_append] at hr
        have hl := ol pre _ hr
        refine pw_skip (pw_seq (pw_block ?_))
        by_cases h : s.c = c
        · repeat refine pw_seq ?_
          refine pw_N [] (by rfl) (by rfl) fun K Gc Gh hK hGc hGh X hX0 hX => ?_
          simp -implicitDefEqProofs [hX0, hX, e3, hc3, h]
          try clear hX0 hX X
          intros
          refine hK _ _ _ ?_
          clear hK hGc hGh
          clear K Gc Gh
          repeat refine pw_seq ?_
          refine pw_ct (by simp) ?_
          repeat refine pw_seq ?_
          refine pw_N [] (by rfl) (by rfl) fun K Gc Gh hK hGc hGh X hX0 hX => ?_
          simp -implicitDefEqProofs [hX0, hX, e31, hc3]
          try clear hX0 hX X
          refine ⟨by omega, ?_⟩
          intros
          refine hK _ _ _ ?_
          clear hK hGc hGh
          clear K Gc Gh
          repeat refine pw_seq ?_
          refine pw_N [] (by rfl) (by rfl) fun K Gc Gh hK hGc hGh X hX0 hX => ?_
          simp -implicitDefEqProofs [hX0, hX]
          try clear hX0 hX X
          intros
          refine hK _ _ _ ?_
          clear hK hGc hGh
          clear K Gc Gh
          exact again_mk (j + 1, pre ++ [(s, a)], v1 + 1) [] ⟨hc3, by simp [hr]⟩ (by simp; omega) (by simp [wrN j (by omega), visOf_app, visOf_one, h]) rfl (by simp [visOf_app, visOf_one, h])
        · repeat refine pw_seq ?_
          refine pw_N [] (by rfl) (by rfl) fun K Gc Gh hK hGc hGh X hX0 hX => ?_
          simp -implicitDefEqProofs [hX0, hX, e3, hc3, h]
          try clear hX0 hX X
          intros
          refine hK _ _ _ ?_
          clear hK hGc hGh
          clear K Gc Gh
          repeat refine pw_seq ?_
          refine pw_cf (by simp) ?_
          refine pw_skip ?_
          repeat refine pw_seq ?_
          refine pw_N [] (by rfl) (by rfl) fun K Gc Gh hK hGc hGh X hX0 hX => ?_
          simp -implicitDefEqProofs [hX0, hX]
          try clear hX0 hX X
          intros
          refine hK _ _ _ ?_
          clear hK hGc hGh
          clear K Gc Gh
          exact again_mk (j + 1, pre ++ [(s, a)], v1) [] ⟨hc3, by simp [hr]⟩ (by simp; omega) (by simp [wrN j (by omega), visOf_app, visOf_one, h]) rfl (by simp [visOf_app, visOf_one, h])
      · simp at hc3
        obtain rfl : j = t.length := by omega
        simp only [List.drop_length, List.map_nil, List.nil_append] at hr
        refine pw_exit ?_
        repeat refine pw_seq ?_
        refine pw_N [] (by rfl) (by rfl) fun K Gc Gh hK hGc hGh X hX0 hX => ?_
        simp -implicitDefEqProofs [hX0, hX]
        try clear hX0 hX X
        intros
        refine hK _ _ _ ?_
        clear hK hGc hGh
        clear K Gc Gh
        exact again_mk (b + 1, pre, v1) [] ⟨hc2, hr⟩ (by simp; omega) (by simp [wrN b (by omega)]) rfl (by simp)
    · simp at hc2
      obtain rfl : b = d.length := by omega
      simp only [List.drop_length, List.flatten_nil, List.map_nil, List.nil_append] at hr
      refine pw_exit ?_
      repeat refine pw_seq ?_
      refine pw_N [] (by rfl) (by rfl) fun K Gc Gh hK hGc hGh X hX0 hX => ?_
      simp -implicitDefEqProofs [hX0, hX]
      try clear hX0 hX X
      intros
      refine hK _ _ _ ?_
      clear hK hGc hGh
      clear K Gc Gh
      exact again_mk (a + 1, pre, v1) [] ⟨hc, hr⟩ (by simp; omega) (by simp [wrN a (by omega)]) rfl (by simp)
  · simp at hc
    obtain rfl : a = p.length := by omega
    simp only [List.drop_length, told, List.append_nil] at hr
    refine pw_exit ?_
    repeat refine pw_seq ?_
    refine pw_N [] (by rfl) (by rfl) fun K Gc Gh hK hGc hGh X hX0 hX => ?_
    simp -implicitDefEqProofs [hX0, hX]
    try clear hX0 hX X
    intros
    refine hK _ _ _ ?_
    clear hK hGc hGh
    clear K Gc Gh
    refine pw_frz 1 rfl ?_
    repeat refine pw_seq ?_
    exact pw_ret (ret_pure hd (by simp; rfl) (by rw [hr]; simp [oneOf]))

end Go.Proofs.YtlkcdaeknioanaaGreat.Pv
