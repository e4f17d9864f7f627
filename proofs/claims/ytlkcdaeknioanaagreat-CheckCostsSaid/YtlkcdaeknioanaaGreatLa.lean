/- Plans told stop by stop (book.stops, Visits, Days), sets of days (days.Of), slices.Contains. -/
import Derived.Test.YtlkcdaeknioanaaGreatTy
import Derived.Test.YtlkcdaeknioanaaGreatFa
namespace Go.Proofs.YtlkcdaeknioanaaGreat.Pv
open Go

structure Visit where
  d : Int
  q : Int
  deriving DecidableEq
instance : Inhabited Visit := ⟨⟨0, 0⟩⟩
instance : Enc Visit := ⟨fun s => [I s.d, I s.q], 2, fun _ => rfl, fun _ => rfl⟩
@[simp] theorem enc_visit (s : Visit) : Enc.enc s = [I s.d, I s.q] := rfl
@[simp high] theorem flen_visit (l : List Visit) : (l.flatMap Enc.enc).length = l.length * 2 := flat_length l
@[simp high] theorem ftake_visit (l : List Visit) : (l.flatMap Enc.enc).take (l.length * 2) = l.flatMap Enc.enc := flat_take' l

/-- The stops of days, each with its day's number. -/
def told : Nat → List Day → List (Stop × Nat)
  | _, [] => []
  | i, d :: ds => d.flatten.map (·, i) ++ told (i + 1) ds

def toldV (x : Stop × Nat) : List PV := [.agg [I x.1.c, I x.1.q, I x.2]]

set_option maxRecDepth 20000 in
theorem stops_ok (p : Plan) : Pure Tryz.prog 87 [.agg [L p]] (.fn (.func 112) [] [.ip [L p]]) := by
  refine pure_enter Tryz.func87 (by rfl) rfl Tryz.ntmps87 (congrArg Array.toList Tryz.results87) (by simp) fun S nx hd => ?_
  repeat refine pw_seq ?_
  refine pw_N [] (by rfl) (by rfl) fun K Gc Gh hK hGc hGh X hX0 hX => ?_
  simp -implicitDefEqProofs [hX0, hX]
  try clear hX0 hX X
  intro v0
  refine hK _ _ _ ?_
  clear hK hGc hGh
  clear K Gc Gh
  repeat refine pw_seq ?_
  refine pw_N [] (by rfl) (by rfl) fun K Gc Gh hK hGc hGh X hX0 hX => ?_
  simp -implicitDefEqProofs [hX0, hX]
  try clear hX0 hX X
  intros
  refine hK _ _ _ ?_
  clear hK hGc hGh
  clear K Gc Gh
  refine pw_frq 0 rfl ?_
  repeat refine pw_seq ?_
  exact pw_ret (ret_pure hd (by simp; rfl) rfl)

set_option maxRecDepth 20000 in
theorem told_iter (p : Plan) (hp : p.length ≤ 1048576) (hd : ∀ d ∈ p, d.length ≤ 1048576) (ht : ∀ d ∈ p, ∀ t ∈ d, t.length ≤ 1048576) : Iter Tryz.prog 112 [.ip [L p]] ((told 0 p).map toldV) := by
  have yieldX : ∀ (pre rest : List (Stop × Nat)) (x : Stop × Nat), told 0 p = pre ++ x :: rest → ((told 0 p).map toldV)[pre.length]? = some (toldV x) := by
    intro pre rest x e; rw [e]; simp
  refine iter_enter Tryz.func112 (by rfl) rfl Tryz.ntmps112 (congrArg Array.toList Tryz.results112) (by simp) fun l V keep nx J hJd hY A0 hA0 => ?_
  repeat refine pw_seq ?_
  refine pw_N [] (by rfl) (by rfl) fun K Gc Gh hK hGc hGh X hX0 hX => ?_
  simp -implicitDefEqProofs [hX0, hX]
  try clear hX0 hX X
  intros
  refine hK _ _ _ ?_
  clear hK hGc hGh
  clear K Gc Gh
  repeat refine pw_seq ?_
  refine pw_block (pw_loopB (σ := Nat × Store × List (Stop × Nat)) (fun s => s.1 ≤ p.length ∧ J s.2.2.length s.2.1 ∧ told 0 p = s.2.2 ++ told s.1 (p.drop s.1)) (fun s => [(0, yld l), (10, L p), (11, I p.length), (12, I s.1)]) (fun s => s.2.1) (fun s => []) (fun s => p.length - s.1) (at_mk (0, A0, []) [] (by simp [hA0]) (by simp) rfl (by simp)) ?_)
  rintro ⟨a, A, pre⟩ ⟨ha, hJ, hr⟩
  simp only at ha hJ hr ⊢
  repeat refine pw_seq ?_
  refine pw_N [] (by rfl) (by rfl) fun K Gc Gh hK hGc hGh X hX0 hX => ?_
  simp -implicitDefEqProofs [hX0, hX]
  try clear hX0 hX X
  intros
  refine hK _ _ _ ?_
  clear hK hGc hGh
  clear K Gc Gh
  repeat refine pw_seq ?_
  refine pw_cond rfl (fun hc => ?_) (fun hc => ?_)
  · simp at hc
    obtain ⟨d, tl, a1, a2, a3, e0⟩ := el1 rfl p a hc
    have hdm := List.mem_of_getElem? a1
    have hdl := hd d hdm
    rw [a2] at hr
    simp only [told] at hr
    refine pw_skip (pw_seq (pw_block ?_))
    repeat refine pw_seq ?_
    refine pw_N [] (by rfl) (by rfl) fun K Gc Gh hK hGc hGh X hX0 hX => ?_
    simp -implicitDefEqProofs [hX0, hX, e0, hc]
    try clear hX0 hX X
    intro v0
    refine hK _ _ _ ?_
    clear hK hGc hGh
    clear K Gc Gh
    repeat refine pw_seq ?_
    refine pw_N [] (by rfl) (by rfl) fun K Gc Gh hK hGc hGh X hX0 hX => ?_
    simp -implicitDefEqProofs [hX0, hX]
    try clear hX0 hX X
    intros
    refine hK _ _ _ ?_
    clear hK hGc hGh
    clear K Gc Gh
    repeat refine pw_seq ?_
    refine pw_block (pw_loopB (σ := Nat × Store × List (Stop × Nat)) (fun s => s.1 ≤ d.length ∧ J s.2.2.length s.2.1 ∧ told 0 p = s.2.2 ++ ((d.drop s.1).flatten.map (·, a) ++ told (a + 1) (p.drop (a + 1)))) (fun s => [(0, yld l), (3, I a), (10, L p), (11, I p.length), (12, I a), (18, L d), (19, I d.length), (20, I s.1)]) (fun s => s.2.1) (fun s => []) (fun s => d.length - s.1) (at_mk (0, A, pre) [_] (by simp [hJ, hr]) (by simp) rfl rfl) ?_)
    rintro ⟨b, A, pre⟩ ⟨hb, hJ, hr⟩
    simp only at hb hJ hr ⊢
    repeat refine pw_seq ?_
    refine pw_N [] (by rfl) (by rfl) fun K Gc Gh hK hGc hGh X hX0 hX => ?_
    simp -implicitDefEqProofs [hX0, hX]
    try clear hX0 hX X
    intros
    refine hK _ _ _ ?_
    clear hK hGc hGh
    clear K Gc Gh
    repeat refine pw_seq ?_
    refine pw_cond rfl (fun hc2 => ?_) (fun hc2 => ?_)
    · simp at hc2
      obtain ⟨t, tl2, b1, b2, b3, e2⟩ := el1 rfl d b hc2
      have htl := ht d hdm t (List.mem_of_getElem? b1)
      rw [b2] at hr
      simp only [List.flatten_cons, List.map_append, List.append_assoc] at hr
      refine pw_skip (pw_seq (pw_block ?_))
      repeat refine pw_seq ?_
      refine pw_N [] (by rfl) (by rfl) fun K Gc Gh hK hGc hGh X hX0 hX => ?_
      simp -implicitDefEqProofs [hX0, hX, e2, hc2]
      try clear hX0 hX X
      intro v1
      refine hK _ _ _ ?_
      clear hK hGc hGh
      clear K Gc Gh
      repeat refine pw_seq ?_
      refine pw_N [] (by rfl) (by rfl) fun K Gc Gh hK hGc hGh X hX0 hX => ?_
      simp -implicitDefEqProofs [hX0, hX]
      try clear hX0 hX X
      intros
      refine hK _ _ _ ?_
      clear hK hGc hGh
      clear K Gc Gh
      repeat refine pw_seq ?_
      refine pw_block (pw_loopB (σ := Nat × Store × List (Stop × Nat)) (fun s => s.1 ≤ t.length ∧ J s.2.2.length s.2.1 ∧ told 0 p = s.2.2 ++ ((t.drop s.1).map (·, a) ++ ((d.drop (b + 1)).flatten.map (·, a) ++ told (a + 1) (p.drop (a + 1))))) (fun s => [(0, yld l), (3, I a), (10, L p), (11, I p.length), (12, I a), (18, L d), (19, I d.length), (20, I b), (25, L t), (26, I t.length), (27, I s.1)]) (fun s => s.2.1) (fun s => []) (fun s => t.length - s.1) (at_mk (0, A, pre) [_] (by simp [hJ, hr]) (by simp) rfl rfl) ?_)
      rintro ⟨j, A, pre⟩ ⟨hj, hJ, hr⟩
      simp only at hj hJ hr ⊢
      repeat refine pw_seq ?_
      refine pw_N [] (by rfl) (by rfl) fun K Gc Gh hK hGc hGh X hX0 hX => ?_
      simp -implicitDefEqProofs [hX0, hX]
      try clear hX0 hX X
      intros
      refine hK _ _ _ ?_
      clear hK hGc hGh
      clear K Gc Gh
      repeat refine pw_seq ?_
      refine pw_cond rfl (fun hc3 => ?_) (fun hc3 => ?_)
      · simp at hc3
        obtain ⟨s, tl3, c1, c2, c3, _, e3⟩ := el 2 rfl t j hc3
        rw [c2] at hr
        simp only [List.map_cons, List.cons_append] at hr
        refine pw_skip (pw_seq (pw_block ?_))
        repeat refine pw_seq ?_
        refine pw_N [] (by rfl) (by rfl) fun K Gc Gh hK hGc hGh X hX0 hX => ?_
        simp -implicitDefEqProofs [hX0, hX, e3, hc3]
        try clear hX0 hX X
        intro v2
        refine hK _ _ _ ?_
        clear hK hGc hGh
        clear K Gc Gh
        repeat refine pw_seq ?_
        refine pw_N [] (by rfl) (by rfl) fun K Gc Gh hK hGc hGh X hX0 hX => ?_
        simp -implicitDefEqProofs [hX]
        try clear hX0 hX X
        refine hGh _ _ _ _ _ fun hsuf => po_yield rfl rfl rfl (hY _ _ _ _ (yieldX pre _ (s, a) hr) hJ) ?_
        rintro _ ⟨A', hJ', rfl⟩
        refine ⟨_, _, rfl, ?_⟩
        clear hGc hGh
        clear Gc Gh
        refine xs_go hsuf (D := []) (by rfl) fun Gc Gh hGc hGh X hX0 hX => ?_
        simp -implicitDefEqProofs [hX0, hX]
        try clear hX0 hX X
        intros
        refine hK _ _ _ ?_
        clear hK hGc hGh
        clear K Gc Gh
        repeat refine pw_seq ?_
        refine pw_cf rfl ?_
        refine pw_skip ?_
        repeat refine pw_seq ?_
        refine pw_N [] (by rfl) (by rfl) fun K Gc Gh hK hGc hGh X hX0 hX => ?_
        simp -implicitDefEqProofs [hX0, hX]
        try clear hX0 hX X
        intros
        refine hK _ _ _ ?_
        clear hK hGc hGh
        clear K Gc Gh
        exact again_mk (j + 1, A', pre ++ [(s, a)]) [_] ⟨hc3, by simpa using hJ', by simp [hr]⟩ (by simp; omega) (by simp [wrN j (by omega)]) rfl rfl
      · simp at hc3
        have : j = t.length := by omega
        subst this
        simp only [List.drop_length, List.map_nil, List.nil_append] at hr
        refine pw_exit ?_
        repeat refine pw_seq ?_
        refine pw_N [] (by rfl) (by rfl) fun K Gc Gh hK hGc hGh X hX0 hX => ?_
        simp -implicitDefEqProofs [hX0, hX]
        try clear hX0 hX X
        intros
        refine hK _ _ _ ?_
        clear hK hGc hGh
        clear K Gc Gh
        exact again_mk (b + 1, A, pre) [] ⟨hc2, hJ, hr⟩ (by simp; omega) (by simp [wrN b (by omega)]) rfl (by simp)
    · simp at hc2
      have : b = d.length := by omega
      subst this
      simp only [List.drop_length, List.flatten_nil, List.map_nil, List.nil_append] at hr
      refine pw_exit ?_
      repeat refine pw_seq ?_
      refine pw_N [] (by rfl) (by rfl) fun K Gc Gh hK hGc hGh X hX0 hX => ?_
      simp -implicitDefEqProofs [hX0, hX]
      try clear hX0 hX X
      intros
      refine hK _ _ _ ?_
      clear hK hGc hGh
      clear K Gc Gh
      exact again_mk (a + 1, A, pre) [] ⟨hc, hJ, hr⟩ (by simp; omega) (by simp [wrN a (by omega)]) rfl (by simp)
  · simp at hc
    have : a = p.length := by omega
    subst this
    simp only [List.drop_length, told, List.append_nil] at hr
    refine pw_exit (ret_iter (hJd _ _ hJ) rfl ?_)
    simpa [hr] using hJ

end Go.Proofs.YtlkcdaeknioanaaGreat.Pv
