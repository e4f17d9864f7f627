/- Plans made of any: a stop put on a day (tranterref16.put), Made. -/
import Derived.Test.YtlkcdaeknioanaaGreatLp
import Derived.Test.YtlkcdaeknioanaaGreatIe
namespace Go.Proofs.YtlkcdaeknioanaaGreat.Pv
open Go

theorem nil_or_snoc {α : Type} (l : List α) : l = [] ∨ ∃ m x, l = m ++ [x] := by
  rcases List.eq_nil_or_concat l with h | ⟨m, x, h⟩
  · exact .inl h
  · exact .inr ⟨m, x, by rw [h, List.concat_eq_append]⟩

def putD (x : Inst) (d : Day) (s : Stop) (join : Bool) : Day :=
  match d.reverse with
  | t :: r => if join = true ∧ mayT x (t ++ [s]) = 0 then r.reverse ++ [t ++ [s]] else d ++ [[s]]
  | [] => [[s]]
theorem putD_nil (x : Inst) (s : Stop) (j : Bool) : putD x [] s j = [[s]] := rfl
theorem putD_snoc (x : Inst) (d : Day) (t : Tour) (s : Stop) (j : Bool) : putD x (d ++ [t]) s j = if j = true ∧ mayT x (t ++ [s]) = 0 then d ++ [t ++ [s]] else (d ++ [t]) ++ [[s]] := by simp [putD]
theorem putD_flat (x : Inst) (d : Day) (s : Stop) (j : Bool) : (putD x d s j).flatten = d.flatten ++ [s] := by
  rcases nil_or_snoc d with rfl | ⟨d', t, rfl⟩
  · simp [putD_nil]
  · rw [putD_snoc]; split <;> simp
theorem putD_ne (x : Inst) (d : Day) (s : Stop) (j : Bool) (h : ∀ t ∈ d, t ≠ []) : ∀ t ∈ putD x d s j, t ≠ [] := by
  rcases nil_or_snoc d with rfl | ⟨d', t, rfl⟩
  · simp [putD_nil]
  · rw [putD_snoc]
    split
    · intro u hu
      rcases List.mem_append.1 hu with hu | hu
      · exact h u (by simp [hu])
      · rw [List.mem_singleton.1 hu]; simp
    · intro u hu
      rcases List.mem_append.1 hu with hu | hu
      · exact h u hu
      · rw [List.mem_singleton.1 hu]; simp

theorem splice_enc {α : Type} [Enc α] (h1 : Enc.sz α = 1) (l : List α) (k : Nat) (v : α) (h : k < l.length) : splice (l.flatMap Enc.enc) k (Enc.enc v) = (l.set k v).flatMap Enc.enc := by
  have e1 : (l.flatMap Enc.enc).take k = (l.take k).flatMap Enc.enc := by
    have := flat_take (α := α) Enc.enc (Enc.sz α) Enc.len l k; rwa [h1, Nat.mul_one] at this
  have e2 : (l.flatMap Enc.enc).drop (k + 1) = (l.drop (k + 1)).flatMap Enc.enc := by
    have := flat_drop (α := α) Enc.enc (Enc.sz α) Enc.len l (k + 1); rwa [h1, Nat.mul_one] at this
  rw [splice, Enc.len, h1, e1, e2, List.set_eq_take_append_cons_drop, if_pos h]
  simp

set_option maxRecDepth 20000 in
theorem put_okD (x : Inst) (d : Day) (s : Stop) (j : Bool) (hx : x.cust.length ≤ 1048576) (hd0 : d.length ≤ 1000000) (ht : ∀ t ∈ d, t.length ≤ 1000000) : Pure Tryz.prog 33 [.agg (instL x), .agg [L d], .agg [I s.c, I s.q], B j] (.agg [L (putD x d s j)]) := by
  refine pure_enter Tryz.func33 (by rfl) rfl Tryz.ntmps33 (congrArg Array.toList Tryz.results33) (by simp) fun S nx hd => ?_
  repeat refine pw_seq ?_
  refine pw_N [] (by rfl) (by rfl) fun K Gc Gh hK hGc hGh X hX0 hX => ?_
  simp -implicitDefEqProofs [hX0, hX]
  try clear hX0 hX X
  intro v0 v1 v2 v3
  refine hK _ _ _ ?_
  clear hK hGc hGh
  clear K Gc Gh
  repeat refine pw_seq ?_
  refine pw_N [] (by rfl) (by rfl) fun K Gc Gh hK hGc hGh X hX0 hX => ?_
  simp -implicitDefEqProofs [hX0, hX]
  try clear hX0 hX X
  intro v4
  refine hK _ _ _ ?_
  clear hK hGc hGh
  clear K Gc Gh
  repeat refine pw_seq ?_
  refine pw_N [] (by rfl) (by rfl) fun K Gc Gh hK hGc hGh X hX0 hX => ?_
  simp -implicitDefEqProofs [hX0, hX]
  try clear hX0 hX X
  refine ⟨by omega, fun v5 => ?_⟩
  intros
  refine hK _ _ _ ?_
  clear hK hGc hGh
  clear K Gc Gh
  repeat refine pw_seq ?_
  refine pw_N [] (by rfl) (by rfl) fun K Gc Gh hK hGc hGh X hX0 hX => ?_
  simp -implicitDefEqProofs [hX0, hX]
  try clear hX0 hX X
  intros
  refine hK _ _ _ ?_
  clear hK hGc hGh
  clear K Gc Gh
  have last : (d = [] ∨ j = false ∨ putD x d s j = d ++ [[s]]) → putD x d s j = d ++ [[s]] := by
    intro h
    rcases nil_or_snoc d with rfl | ⟨d', t, rfl⟩
    · rfl
    · rcases h with h | rfl | h
      · simp at h
      · rw [putD_snoc]; simp
      · exact h
  rcases nil_or_snoc d with rfl | ⟨d', t, rfl⟩
  · repeat refine pw_seq ?_
    refine pw_joinK (nx := nx) (σ := Unit) (fun _ => True) (fun _ => [(6, .ptr (nx + 2) v2 0), (8, .ptr (nx + 3) v3 0), (9, .ptr (nx + 4) v4 0), (25, B false)]) (fun _ => S) (fun _ => [.cells v0 25 (instL x), .cells v1 45 [L ([] : Day)], .cells v2 61 [I s.c, I s.q], .cells v3 45 [.sc (.slice none 0 0)], .cells v4 45 [.sl (nx + 5) v5 1 0 0], .cells v5 59 []]) ?_ ?_
    · cases j with
      | true =>
        repeat refine pw_seq ?_
        refine pw_N [(1, 22)] (by rfl) (by rfl) fun K Gc Gh hK hGc hGh X hX0 hX => ?_
        simp -implicitDefEqProofs [hX0, hX]
        try clear hX0 hX X
        intros
        refine hK _ _ _ ?_
        clear hK hGc hGh
        clear K Gc Gh
        exact at_mk () [] trivial (by simp) rfl (by simp)
      | false =>
        repeat refine pw_seq ?_
        refine pw_N [(1, 22)] (by rfl) (by rfl) fun K Gc Gh hK hGc hGh X hX0 hX => ?_
        simp -implicitDefEqProofs [hX0, hX, undef]
        try clear hX0 hX X
        intros
        refine hK _ _ _ ?_
        clear hK hGc hGh
        clear K Gc Gh
        exact at_mk () [] trivial (by simp) rfl (by simp)
    intro _ _
    repeat refine pw_seq ?_
    refine pw_cf (by simp) ?_
    refine pw_skip ?_
    repeat refine pw_seq ?_
    refine pw_N [] (by rfl) (by rfl) fun K Gc Gh hK hGc hGh X hX0 hX => ?_
    simp -implicitDefEqProofs [hX0, hX]
    try clear hX0 hX X
    intros
    refine hK _ _ _ ?_
    clear hK hGc hGh
    clear K Gc Gh
    repeat refine pw_seq ?_
    refine pw_N [] (by rfl) (by rfl) fun K Gc Gh hK hGc hGh X hX0 hX => ?_
    simp -implicitDefEqProofs [hX0, hX]
    try clear hX0 hX X
    intros
    refine hK _ _ _ ?_
    clear hK hGc hGh
    clear K Gc Gh
    refine pw_frz 5 rfl ?_
    repeat refine pw_seq ?_
    exact pw_ret (ret_pure hd (by simp; rfl) (by simp [putD_nil, oneOf]))
  · have htl := ht t (by simp)
    have hdl : d'.length + 1 ≤ 1000000 := by simpa using hd0
    obtain ⟨t', tl, a1, a2, a3, e0⟩ := el1 rfl (d' ++ [t]) d'.length (by simp)
    obtain rfl : t' = t := by simp at a1; exact a1.symm
    have hw : IntKind.i64.wrap (((d'.length : Int) + 1) - 1) = (d'.length : Int) := by rw [wr _ (by omega) (by omega)]; omega
    have hw' : IntKind.i64.wrap (d'.length : Int) = (d'.length : Int) := wr _ (by omega) (by omega)
    have hlt : (d'.length : Int) < (d'.length : Int) + 1 := by omega
    have hpos : (0 : Int) < (d'.length : Int) + 1 := by omega
    have e0' : List.drop d'.length (List.flatMap Enc.enc d' ++ Enc.enc t') = Enc.enc t' ++ tl := by simpa using e0
    have hsp := splice_enc (α := Tour) rfl (d' ++ [t']) d'.length (t' ++ [s]) (by simp)
    have hset : (d' ++ [t']).set d'.length (t' ++ [s]) = d' ++ [t' ++ [s]] := by simp
    rw [hset] at hsp
    have hsp' : splice (List.flatMap Enc.enc d' ++ [L t']) d'.length [L (t' ++ [s])] = List.flatMap Enc.enc d' ++ [L (t' ++ [s])] := by simpa using hsp
    have htk : List.take (d'.length + 1) (List.flatMap Enc.enc d' ++ [L t']) = List.flatMap Enc.enc d' ++ [L t'] := List.take_of_length_le (by simp)
    cases j with
    | false =>
      repeat refine pw_seq ?_
      refine pw_N [(1, 22)] (by rfl) (by rfl) fun K Gc Gh hK hGc hGh X hX0 hX => ?_
      simp -implicitDefEqProofs [hX0, hX, undef]
      try clear hX0 hX X
      intros
      refine hK _ _ _ ?_
      clear hK hGc hGh
      clear K Gc Gh
      repeat refine pw_seq ?_
      refine pw_cf rfl ?_
      refine pw_skip ?_
      repeat refine pw_seq ?_
      refine pw_N [] (by rfl) (by rfl) fun K Gc Gh hK hGc hGh X hX0 hX => ?_
      simp -implicitDefEqProofs [hX0, hX, htk]
      try clear hX0 hX X
      refine ⟨by omega, ?_⟩
      intros
      refine hK _ _ _ ?_
      clear hK hGc hGh
      clear K Gc Gh
      repeat refine pw_seq ?_
      refine pw_N [] (by rfl) (by rfl) fun K Gc Gh hK hGc hGh X hX0 hX => ?_
      simp -implicitDefEqProofs [hX0, hX]
      try clear hX0 hX X
      intros
      refine hK _ _ _ ?_
      clear hK hGc hGh
      clear K Gc Gh
      refine pw_frz 5 rfl ?_
      repeat refine pw_seq ?_
      exact pw_ret (ret_pure hd (by simp; rfl) (by simp [putD_snoc, oneOf]))
    | true =>
      repeat refine pw_seq ?_
      refine pw_N [(1, 22)] (by rfl) (by rfl) fun K Gc Gh hK hGc hGh X hX0 hX => ?_
      simp -implicitDefEqProofs [hX0, hX, hpos]
      try clear hX0 hX X
      intros
      refine hK _ _ _ ?_
      clear hK hGc hGh
      clear K Gc Gh
      repeat refine pw_seq ?_
      refine pw_ct (by simp) ?_
      repeat refine pw_seq ?_
      refine pw_N [] (by rfl) (by rfl) fun K Gc Gh hK hGc hGh X hX0 hX => ?_
      simp -implicitDefEqProofs [hX0, hX]
      try clear hX0 hX X
      intro v6
      refine hK _ _ _ ?_
      clear hK hGc hGh
      clear K Gc Gh
      repeat refine pw_seq ?_
      refine pw_Y (some [nx + 4, nx + 5]) (Row.pures [0, 2, 3, 4, 5, 6, 7, 8] (.alt 1 (.alt 9 (Row.pures [10] (.alt 11 (.done) .stop)) .stop) .stop)) mixed (by rfl) (by rfl) (by rfl) fun K Gp Gc Gh hK hGp hGc hGh X hX0 hX1 hX2 hX => ?_
      simp -implicitDefEqProofs [hX0, hX1, hX2, hX, hw', hlt]
      try clear hX0 hX1 hX2 hX X
      refine ⟨by omega, fun v7 => ?_⟩
      refine hK _ _ _ ?_
      clear hK hGp hGc hGh
      clear K Gp Gc Gh
      repeat refine pw_seq ?_
      refine pw_N [] (by rfl) (by rfl) fun K Gc Gh hK hGc hGh X hX0 hX => ?_
      simp -implicitDefEqProofs [hX0, hX]
      try clear hX0 hX X
      refine ⟨by omega, ?_⟩
      intros
      refine hK _ _ _ ?_
      clear hK hGc hGh
      clear K Gc Gh
      refine pw_frz 7 rfl ?_
      have hmay := mayR_ok x (t' ++ [s]) hx (by simp; omega)
      have hLt : L (t' ++ [s]) = .lst (t'.length + 1) (List.flatMap Enc.enc t' ++ [I s.c, I s.q]) := by simp
      have hsp2 := hsp'
      rw [hLt] at hmay hsp2
      have ht2 : (t'.length + 1) * 2 = t'.length * 2 + 2 := by omega
      repeat refine pw_seq ?_
      refine pw_N [] (by rfl) (by rfl) fun K Gc Gh hK hGc hGh X hX0 hX => ?_
      simp -implicitDefEqProofs [hX, ht2]
      try clear hX0 hX X
      refine hGc _ _ _ _ _ _ _ fun hsuf => ((hmay _).mono ?_).v
      rintro _ _ ⟨rfl, rfl⟩
      refine ⟨_, _, rfl, ?_⟩
      clear hGc hGh
      clear Gc Gh
      refine xs_go hsuf (D := []) (by rfl) fun Gc Gh hGc hGh X hX0 hX => ?_
      simp -implicitDefEqProofs [hX0, hX]
      try clear hX0 hX X
      intros
      refine hK _ _ _ ?_
      clear hK hGc hGh
      clear K Gc Gh
      by_cases hm : mayT x (t' ++ [s]) = 0
      · repeat refine pw_seq ?_
        refine pw_ct (by simp [hm]) ?_
        repeat refine pw_seq ?_
        refine pw_N [] (by rfl) (by rfl) fun K Gc Gh hK hGc hGh X hX0 hX => ?_
        simp -implicitDefEqProofs [hX0, hX, hw', hlt, hsp2]
        try clear hX0 hX X
        intros
        refine hK _ _ _ ?_
        clear hK hGc hGh
        clear K Gc Gh
        repeat refine pw_seq ?_
        refine pw_N [] (by rfl) (by rfl) fun K Gc Gh hK hGc hGh X hX0 hX => ?_
        simp -implicitDefEqProofs [hX0, hX]
        try clear hX0 hX X
        intros
        refine hK _ _ _ ?_
        clear hK hGc hGh
        clear K Gc Gh
        refine pw_frz 5 rfl ?_
        repeat refine pw_seq ?_
        exact pw_ret (ret_pure hd (by simp; rfl) (by simp [putD_snoc, hm, oneOf]))
      · repeat refine pw_seq ?_
        refine pw_cf (by simp [hm]) ?_
        refine pw_skip ?_
        repeat refine pw_seq ?_
        refine pw_N [] (by rfl) (by rfl) fun K Gc Gh hK hGc hGh X hX0 hX => ?_
        simp -implicitDefEqProofs [hX0, hX, htk]
        try clear hX0 hX X
        refine ⟨by omega, ?_⟩
        intros
        refine hK _ _ _ ?_
        clear hK hGc hGh
        clear K Gc Gh
        repeat refine pw_seq ?_
        refine pw_N [] (by rfl) (by rfl) fun K Gc Gh hK hGc hGh X hX0 hX => ?_
        simp -implicitDefEqProofs [hX0, hX]
        try clear hX0 hX X
        intros
        refine hK _ _ _ ?_
        clear hK hGc hGh
        clear K Gc Gh
        refine pw_frz 5 rfl ?_
        repeat refine pw_seq ?_
        exact pw_ret (ret_pure hd (by simp; rfl) (by simp [putD_snoc, hm, oneOf]))

end Go.Proofs.YtlkcdaeknioanaaGreat.Pv
