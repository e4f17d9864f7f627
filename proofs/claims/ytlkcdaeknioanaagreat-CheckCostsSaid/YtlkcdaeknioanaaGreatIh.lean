/- Whether a day may be, and days that are apart: the program. -/
import Derived.Test.YtlkcdaeknioanaaGreatIg
namespace Go.Proofs.YtlkcdaeknioanaaGreat.Pv
open Go

def dayT (x : Inst) (d : Day) : Int :=
  match d.find? (fun t => mayT x t != 0) with
  | some t => mayT x t
  | none => if ¬ (d.flatten.map (·.c)).Nodup then 11 else if x.veh < d.length then 14 else 0

theorem find_none_snoc {α : Type} {p : α → Bool} {l : List α} {k : Nat} {a : α} (h : (l.take k).find? p = none) (ht : l.take (k + 1) = l.take k ++ [a]) (ha : p a = false) : (l.take (k + 1)).find? p = none := by
  rw [ht, List.find?_append, h]; simp [ha]
theorem find_some_at {α : Type} {p : α → Bool} {l : List α} {k : Nat} {a : α} (h : (l.take k).find? p = none) (hd : l.drop k = a :: l.drop (k + 1)) (ha : p a = true) : l.find? p = some a := by
  have e : l = l.take k ++ a :: l.drop (k + 1) := by rw [← hd, List.take_append_drop]
  rw [e, List.find?_append, h]; simp [ha]

set_option maxRecDepth 10000 in
theorem dayP_ok (x : Inst) (d : Day) (hx : x.cust.length ≤ 1048576) (hn : d.length ≤ 1048576) (ht : ∀ t ∈ d, t.length ≤ 1048576) (hf : d.flatten.length ≤ 1048576) : Pure Tryz.prog 28 [.agg (instL x), .agg [L d]] (I (dayT x d)) := by
  refine pure_enter Tryz.func28 (by rfl) rfl Tryz.ntmps28 (congrArg Array.toList Tryz.results28) (by simp) fun S nx hd => ?_
  repeat refine pw_seq ?_
  refine pw_N [] (by rfl) (by rfl) fun K Gc Gh hK hGc hGh X hX0 hX => ?_
  simp -implicitDefEqProofs [hX0, hX]
  try clear hX0 hX X
  intro v0 v1
  refine hK _ _ _ ?_
  clear hK hGc hGh
  clear K Gc Gh
  repeat refine pw_seq ?_
  refine pw_N [] (by rfl) (by rfl) fun K Gc Gh hK hGc hGh X hX0 hX => ?_
  simp -implicitDefEqProofs [hX0, hX]
  try clear hX0 hX X
  intros
  refine hK _ _ _ ?_
  clear hK hGc hGh
  clear K Gc Gh
  repeat refine pw_seq ?_
  refine pw_block (pw_loopL (fun s : Nat × Nat × Nat => s.1 ≤ d.length ∧ (d.take s.1).find? (fun t => mayT x t != 0) = none) (fun (k, v, v') => [(2, .ptr nx v 0), (3, .ptr (nx + 1) v' 0), (9, L d), (10, I d.length), (11, I k)]) (fun (k, v, v') => [.cells v 25 (instL x), .cells v' 45 [L d]]) (fun s => d.length - s.1) (0, v0, v1) [] (by simp) (by simp) (by simp) ?_)
  rintro ⟨k, v0, v1⟩ ⟨hk, ha⟩
  simp only at hk ha ⊢
  repeat refine pw_seq ?_
  refine pw_N [] (by rfl) (by rfl) fun K Gc Gh hK hGc hGh X hX0 hX => ?_
  simp -implicitDefEqProofs [hX0, hX]
  try clear hX0 hX X
  intros
  refine hK _ _ _ ?_
  clear hK hGc hGh
  clear K Gc Gh
  repeat refine pw_seq ?_
  refine pw_cond rfl (fun hc => ?_) (fun hc => ?_)
  · simp at hc
    obtain ⟨t, tl, a1, a2, a3, e0⟩ := el1 rfl d k hc
    refine pw_skip (pw_seq (pw_block ?_))
    repeat refine pw_seq ?_
    refine pw_N [] (by rfl) (by rfl) fun K Gc Gh hK hGc hGh X hX0 hX => ?_
    simp -implicitDefEqProofs [hX0, hX, hc, e0]
    try clear hX0 hX X
    intros
    refine hK _ _ _ ?_
    clear hK hGc hGh
    clear K Gc Gh
    repeat refine pw_seq ?_
    refine pw_N [] (by rfl) (by rfl) fun K Gc Gh hK hGc hGh X hX0 hX => ?_
    simp -implicitDefEqProofs [hX]
    try clear hX0 hX X
    refine hGc _ _ _ _ _ _ _ fun hsuf => ((mayP_ok x t hx (ht t (List.mem_of_getElem? a1)) _).mono ?_).v
    rintro _ _ ⟨rfl, rfl⟩
    refine ⟨_, _, rfl, ?_⟩
    clear hGc hGh
    clear Gc Gh
    refine xs_go hsuf (D := []) (by rfl) fun Gc Gh hGc hGh X hX0 hX => ?_
    simp -implicitDefEqProofs [hX0, hX]
    try clear hX0 hX X
    intros
    refine hK _ _ _ ?_
    clear hK hGc hGh
    clear K Gc Gh
    repeat refine pw_seq ?_
    refine pw_N [] (by rfl) (by rfl) fun K Gc Gh hK hGc hGh X hX0 hX => ?_
    simp -implicitDefEqProofs [hX0, hX]
    try clear hX0 hX X
    intros
    refine hK _ _ _ ?_
    clear hK hGc hGh
    clear K Gc Gh
    repeat refine pw_seq ?_
    refine pw_cond rfl (fun h1 => ?_) (fun h1 => ?_)
    · simp at h1
      repeat refine pw_seq ?_
      refine pw_N [] (by rfl) (by rfl) fun K Gc Gh hK hGc hGh X hX0 hX => ?_
      simp -implicitDefEqProofs [hX0, hX]
      try clear hX0 hX X
      intros
      refine hK _ _ _ ?_
      clear hK hGc hGh
      clear K Gc Gh
      repeat refine pw_seq ?_
      exact pw_ret (ret_pure hd rfl (by simp only [dayT, find_some_at ha a2 (by simpa using h1)]; simp))
    · simp at h1
      refine pw_skip ?_
      repeat refine pw_seq ?_
      refine pw_N [] (by rfl) (by rfl) fun K Gc Gh hK hGc hGh X hX0 hX => ?_
      simp -implicitDefEqProofs [hX0, hX]
      try clear hX0 hX X
      intros
      refine hK _ _ _ ?_
      clear hK hGc hGh
      clear K Gc Gh
      exact again_mk (k + 1, v0, v1) [_] ⟨hc, find_none_snoc ha a3 (by simpa using h1)⟩ (by simp; omega) (by simp [wrN k (by omega)]) rfl (by simp; rfl)
  · simp at hc
    have hk' : k = d.length := by omega
    subst hk'
    rw [List.take_length] at ha
    have hst := stopsP_ok d hn hf
    have hres : dayT x d = if ¬ (d.flatten.map (·.c)).Nodup then 11 else if x.veh < d.length then 14 else 0 := by unfold dayT; rw [ha]
    generalize d.flatten = fl at *
    refine pw_exit ?_
    repeat refine pw_seq ?_
    refine pw_N [] (by rfl) (by rfl) fun K Gc Gh hK hGc hGh X hX0 hX => ?_
    simp -implicitDefEqProofs [hX]
    try clear hX0 hX X
    refine hGc _ _ _ _ _ _ _ fun hsuf => ((hst _).mono ?_).v
    rintro _ _ ⟨rfl, rfl⟩
    refine ⟨_, _, rfl, ?_⟩
    clear hGc hGh
    clear Gc Gh
    refine xs_go hsuf (D := []) (by rfl) fun Gc Gh hGc hGh X hX0 hX => ?_
    simp -implicitDefEqProofs [hX]
    try clear hX0 hX X
    refine hGc _ _ _ _ _ _ _ fun hsuf => ((custP_own fl hf _ _ ext_dead).mono ?_).v
    rintro _ _ ⟨v2, rfl, rfl⟩
    refine ⟨_, _, ext_push1 _, ?_⟩
    clear hGc hGh
    clear Gc Gh
    refine xs_go hsuf (D := []) (by rfl) fun Gc Gh hGc hGh X hX0 hX => ?_
    simp -implicitDefEqProofs [hX, Nat.add_assoc]
    clear hX0 hX X
    rw [← List.length_map (f := fun s : Stop => s.c)]
    refine hGc _ _ _ _ _ _ _ fun hsuf => ((unlike_ok _ (by simp) (by simpa using hf)).mono ?_).v
    rintro _ _ ⟨rfl, rfl⟩
    refine ⟨_, _, ext_set _ (by simp) (by simp), ?_⟩
    clear hGc hGh
    clear Gc Gh
    refine xs_go hsuf (D := []) (by rfl) fun Gc Gh hGc hGh X hX0 hX => ?_
    simp -implicitDefEqProofs [hX0, hX]
    clear hX0 hX X
    intros
    refine hK _ _ _ ?_
    clear hK hGc hGh
    clear K Gc Gh
    repeat refine pw_seq ?_
    refine pw_cond rfl (fun h2 => ?_) (fun h2 => ?_)
    · simp at h2
      repeat refine pw_seq ?_
      refine pw_N [] (by rfl) (by rfl) fun K Gc Gh hK hGc hGh X hX0 hX => ?_
      simp -implicitDefEqProofs [hX0, hX]
      try clear hX0 hX X
      intros
      refine hK _ _ _ ?_
      clear hK hGc hGh
      clear K Gc Gh
      repeat refine pw_seq ?_
      exact pw_ret (ret_pure hd rfl (by simp [hres, h2]))
    · simp at h2
      refine pw_skip ?_
      repeat refine pw_seq ?_
      refine pw_N [] (by rfl) (by rfl) fun K Gc Gh hK hGc hGh X hX0 hX => ?_
      simp -implicitDefEqProofs [hX0, hX]
      try clear hX0 hX X
      intros
      refine hK _ _ _ ?_
      clear hK hGc hGh
      clear K Gc Gh
      repeat refine pw_seq ?_
      refine pw_cond rfl (fun h3 => ?_) (fun h3 => ?_)
      · simp at h3
        repeat refine pw_seq ?_
        refine pw_N [] (by rfl) (by rfl) fun K Gc Gh hK hGc hGh X hX0 hX => ?_
        simp -implicitDefEqProofs [hX0, hX]
        try clear hX0 hX X
        intros
        refine hK _ _ _ ?_
        clear hK hGc hGh
        clear K Gc Gh
        repeat refine pw_seq ?_
        exact pw_ret (ret_pure hd rfl (by simp [hres, h2, h3]))
      · simp at h3
        refine pw_skip ?_
        repeat refine pw_seq ?_
        refine pw_N [] (by rfl) (by rfl) fun K Gc Gh hK hGc hGh X hX0 hX => ?_
        simp -implicitDefEqProofs [hX0, hX]
        try clear hX0 hX X
        intros
        refine hK _ _ _ ?_
        clear hK hGc hGh
        clear K Gc Gh
        repeat refine pw_seq ?_
        exact pw_ret (ret_pure hd rfl (by simp [hres, h2, Int.not_lt.2 h3]))

/-- A day of tours of one stop. -/
def apartD (l : List Stop) : Day := l.map fun s => [s]

end Go.Proofs.YtlkcdaeknioanaaGreat.Pv
