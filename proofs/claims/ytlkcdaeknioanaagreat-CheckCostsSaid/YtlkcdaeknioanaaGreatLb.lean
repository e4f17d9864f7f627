/- A customer's visits, and their days (book.Visits, Days; tranterref08.Visits). -/
import Derived.Test.YtlkcdaeknioanaaGreatLa
namespace Go.Proofs.YtlkcdaeknioanaaGreat.Pv
open Go

/-- Of what is told, a customer's visits. -/
def visOf (c : Int) (l : List (Stop × Nat)) : List Visit := (l.filter fun x => decide (x.1.c = c)).map fun x => ⟨x.2, x.1.q⟩
theorem visOf_app (c : Int) (l m : List (Stop × Nat)) : visOf c (l ++ m) = visOf c l ++ visOf c m := by simp [visOf]
theorem visOf_one (c : Int) (x : Stop × Nat) : visOf c [x] = if x.1.c = c then [⟨x.2, x.1.q⟩] else [] := by
  by_cases h : x.1.c = c <;> simp [visOf, h]
theorem visOf_len (c : Int) (l : List (Stop × Nat)) : (visOf c l).length ≤ l.length := by
  simp only [visOf, List.length_map]; exact List.length_filter_le _ _

structure PlanOk (p : Plan) : Prop where
  n : p.length ≤ 1048576
  d : ∀ d ∈ p, d.length ≤ 1048576
  t : ∀ d ∈ p, ∀ t ∈ d, t.length ≤ 1048576
  told : (told 0 p).length ≤ 1048576

set_option maxRecDepth 20000 in
theorem visitsP_ok (p : Plan) (c : Int) (hp : PlanOk p) : Pure Tryz.prog 65 [.agg [L p], I c] (L (visOf c (told 0 p))) := by
  have hlen := hp.told
  refine pure_enter Tryz.func65 (by rfl) rfl Tryz.ntmps65 (congrArg Array.toList Tryz.results65) (by simp) fun S nx hd => ?_
  repeat refine pw_seq ?_
  refine pw_N [] (by rfl) (by rfl) fun K Gc Gh hK hGc hGh X hX0 hX => ?_
  simp -implicitDefEqProofs [hX0, hX]
  try clear hX0 hX X
  intro v0 v1
  refine hK _ _ _ ?_
  clear hK hGc hGh
  clear K Gc Gh
  repeat refine pw_seq ?_
  refine pw_N [] (by rfl) (by rfl) fun K Gc Gh hK hGc hGh X hX0 hX => ?_
  simp -implicitDefEqProofs [hX0, hX]
  try clear hX0 hX X
  intro v2
  refine hK _ _ _ ?_
  clear hK hGc hGh
  clear K Gc Gh
  repeat refine pw_seq ?_
  refine pw_N [] (by rfl) (by rfl) fun K Gc Gh hK hGc hGh X hX0 hX => ?_
  simp -implicitDefEqProofs [hX]
  try clear hX0 hX X
  refine hGc _ _ _ _ _ _ _ fun hsuf => ((stops_ok p _).mono ?_).v
  rintro _ _ ⟨rfl, rfl⟩
  refine ⟨_, _, rfl, ?_⟩
  clear hGc hGh
  clear Gc Gh
  refine xs_go hsuf (D := []) (by rfl) fun Gc Gh hGc hGh X hX0 hX => ?_
  simp -implicitDefEqProofs [hX0]
  try clear hX0 hX X
  intros
  refine hK _ _ _ ?_
  clear hK hGc hGh
  clear K Gc Gh
  refine pw_nilObX 2 0 69 2 rfl rfl fun v3 => ?_
  repeat refine pw_seq ?_
  refine pw_block (pw_rangeFunc (xs := (told 0 p).map toldV) (σ := List Visit × Nat) (fun i s => s.1 = visOf c ((told 0 p).take i) ∧ s.1.length ≤ i ∧ i ≤ (told 0 p).length) [(3, .ptr (nx + 1) v1 0), (5, .ptr (nx + 2) v2 0)] (fun _ => S)
    (fun (out, v3) => [.cells v0 30 [L p], .cells v1 3 [I c], .cells v2 65 [.sl (nx + 3) v3 2 0 out.length], .cells v3 69 (out.flatMap Enc.enc)]) ([], v3)
    (told_iter p hp.n hp.d hp.t) rfl (by intro x hx; obtain ⟨y, _, rfl⟩ := List.mem_map.1 hx; rfl) (by decide) (by simp) ⟨by simp [visOf], by simp, by simp⟩ rfl (by simp) (by simp) ?_ ?_)
  · rintro l i ⟨out, v3⟩ more x ⟨ho, hl, hi⟩ hx
    simp only at ho hl hi ⊢
    rw [List.getElem?_map] at hx
    obtain ⟨y, hy, rfl⟩ := Option.map_eq_some_iff.1 hx
    obtain ⟨s, d⟩ := y
    obtain ⟨hil, hyi⟩ := List.getElem?_eq_some_iff.1 hy
    have htk : (told 0 p).take (i + 1) = (told 0 p).take i ++ [(s, d)] := by rw [List.take_succ_eq_append_getElem hil, hyi]
    repeat refine pw_seq ?_
    refine pw_N [] (by rfl) (by rfl) fun K Gc Gh hK hGc hGh X hX0 hX => ?_
    simp -implicitDefEqProofs [hX0, hX, toldV]
    try clear hX0 hX X
    intro v4
    refine hK _ _ _ ?_
    clear hK hGc hGh
    clear K Gc Gh
    refine pw_block ?_
    repeat refine pw_seq ?_
    refine pw_N [] (by rfl) (by rfl) fun K Gc Gh hK hGc hGh X hX0 hX => ?_
    simp -implicitDefEqProofs [hX0, hX]
    try clear hX0 hX X
    intros
    refine hK _ _ _ ?_
    clear hK hGc hGh
    clear K Gc Gh
    repeat refine pw_seq ?_
    refine pw_cond rfl (fun hc => ?_) (fun hc => ?_)
    · simp at hc
      repeat refine pw_seq ?_
      refine pw_N [] (by rfl) (by rfl) fun K Gc Gh hK hGc hGh X hX0 hX => ?_
      simp -implicitDefEqProofs [hX0, hX]
      try clear hX0 hX X
      refine ⟨by omega, ?_⟩
      intros
      refine hK _ _ _ ?_
      clear hK hGc hGh
      clear K Gc Gh
      simp only [inBlockQ]
      exact rnd_mk (out ++ [⟨d, s.q⟩], v3 + 1) [_] ⟨by rw [htk, visOf_app, visOf_one, if_pos hc, ho], by simp; omega, by omega⟩ rfl (by simp; rfl)
    · simp at hc
      refine pw_skip ?_
      simp only [inBlockQ]
      exact rnd_mk (out, v3) [_] ⟨by rw [htk, visOf_app, visOf_one, if_neg hc, ho, List.append_nil], Nat.le_succ_of_le hl, by omega⟩ rfl (by simp; rfl)
  · rintro ⟨out, v3⟩ ⟨ho, hl, -⟩
    simp only [List.length_map, List.take_length] at ho hl ⊢
    repeat refine pw_seq ?_
    refine pw_N [] (by rfl) (by rfl) fun K Gc Gh hK hGc hGh X hX0 hX => ?_
    simp -implicitDefEqProofs [hX0, hX]
    try clear hX0 hX X
    intros
    refine hK _ _ _ ?_
    clear hK hGc hGh
    clear K Gc Gh
    refine pw_frz 3 rfl ?_
    repeat refine pw_seq ?_
    exact pw_ret (ret_pure hd (by simp; rfl) (by rw [ho]; rfl))

end Go.Proofs.YtlkcdaeknioanaaGreat.Pv
