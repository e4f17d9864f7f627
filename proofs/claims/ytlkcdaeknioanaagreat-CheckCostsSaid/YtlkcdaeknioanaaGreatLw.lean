/- Plans cut (tranterref08.Cut); lives. -/
import Derived.Test.YtlkcdaeknioanaaGreatLv
import Derived.Test.YtlkcdaeknioanaaGreatLr
namespace Go.Proofs.YtlkcdaeknioanaaGreat.Pv
open Go

def cutD (d : Day) : Day := (d.take 6).map fun t => t.take 8
def cutP (p : Plan) : Plan := (p.take 8).map cutD

set_option maxRecDepth 20000 in
theorem cut_own (p : Plan) (S : Store) (nx : Nat) (hd : DeadFrom nx S) :
    Spec Tryz.prog 9 [.agg [L p]] S (fun q S' => ∃ v, q = .agg [.sl (nx + 3) v 1 0 (cutP p).length] ∧ S' = S.set (nx + 3) (.cells v 45 ((cutP p).flatMap Enc.enc))) := by
  refine spec_at hd Tryz.func9 (by rfl) rfl Tryz.ntmps9 (congrArg Array.toList Tryz.results9) (by simp) ?_
  repeat refine pw_seq ?_
  refine pw_N [] (by rfl) (by rfl) fun K Gc Gh hK hGc hGh X hX0 hX => ?_
  simp -implicitDefEqProofs [hX0, hX]
  try clear hX0 hX X
  intro v0 v1
  refine hK _ _ _ ?_
  clear hK hGc hGh
  clear K Gc Gh
  repeat refine pw_seq ?_
  refine pw_N [] (by rfl) (by rfl) fun K Gc Gh hK hGc hGh X hX0 hX => ?_
  simp -implicitDefEqProofs [hX0, hX]
  try clear hX0 hX X
  intro v2
  refine hK _ _ _ ?_
  clear hK hGc hGh
  clear K Gc Gh
  refine pw_seq (pw_nilObX 2 0 45 1 rfl rfl fun v3 => ?_)
  repeat refine pw_seq ?_
  refine pw_N [] (by rfl) (by rfl) fun K Gc Gh hK hGc hGh X hX0 hX => ?_
  simp -implicitDefEqProofs [hX0, hX]
  try clear hX0 hX X
  intros
  refine hK _ _ _ ?_
  clear hK hGc hGh
  clear K Gc Gh
  repeat refine pw_seq ?_
  refine pw_joinK (nx := nx) (σ := Nat) (fun _ => True) (fun v3 => [(2, .ptr (nx + 1) v1 0), (3, .ptr (nx + 2) v2 0)]) (fun _ => S) (fun v3 => [.cells v0 30 [L p], .cells v1 30 [.sc (.slice none 0 0)], .cells v2 30 [.sl (nx + 3) v3 1 0 (cutP p).length], .cells v3 45 ((cutP p).flatMap Enc.enc)]) ?_ ?_
  · refine pw_block (pw_loopL (fun s : Nat × Plan × Nat => s.1 ≤ 8 ∧ s.1 ≤ p.length ∧ s.2.1 = (p.take s.1).map cutD) (fun (a, out, v3) => [(1, .ptr nx v0 0), (2, .ptr (nx + 1) v1 0), (3, .ptr (nx + 2) v2 0), (4, I a)]) (fun (a, out, v3) => [.cells v0 30 [L p], .cells v1 30 [.sc (.slice none 0 0)], .cells v2 30 [.sl (nx + 3) v3 1 0 out.length], .cells v3 45 (out.flatMap Enc.enc)]) (fun s => 8 - s.1) (0, [], v3) [] (by simp) (by simp) (by simp) ?_)
    rintro ⟨a, out, v3⟩ ⟨ha8, hap, ho⟩
    simp only at ha8 hap ho ⊢
    have hol : out.length = a := by rw [ho]; simp; omega
    have fin : (a = 8 ∨ a = p.length) → out = cutP p := by
      rintro (h | h)
      · rw [ho, h]; rfl
      · rw [ho, cutP, List.take_of_length_le (by omega), List.take_of_length_le (by omega)]
    by_cases hq1 : a < p.length
    case neg =>
      repeat refine pw_seq ?_
      refine pw_N [(5, 14)] (by rfl) (by rfl) fun K Gc Gh hK hGc hGh X hX0 hX => ?_
      simp -implicitDefEqProofs [hX0, hX, hq1, undef]
      try clear hX0 hX X
      intros
      refine hK _ _ _ ?_
      clear hK hGc hGh
      clear K Gc Gh
      repeat refine pw_seq ?_
      refine pw_cf rfl ?_
      have hk := fin (.inr (by omega))
      exact pw_exit (at_mk v3 [] trivial (by simp) rfl (by simp only [← hk]; simp))
    by_cases hq2 : (a : Int) < 8
    case neg =>
      repeat refine pw_seq ?_
      refine pw_N [(5, 14)] (by rfl) (by rfl) fun K Gc Gh hK hGc hGh X hX0 hX => ?_
      simp -implicitDefEqProofs [hX0, hX, hq1, hq2]
      try clear hX0 hX X
      intros
      refine hK _ _ _ ?_
      clear hK hGc hGh
      clear K Gc Gh
      repeat refine pw_seq ?_
      refine pw_cf rfl ?_
      have hk := fin (.inl (by omega))
      exact pw_exit (at_mk v3 [] trivial (by simp) rfl (by simp only [← hk]; simp))
    obtain ⟨d, tl, a1, a2, a3, e0⟩ := el1 rfl p a hq1
    repeat refine pw_seq ?_
    refine pw_N [(5, 14)] (by rfl) (by rfl) fun K Gc Gh hK hGc hGh X hX0 hX => ?_
    simp -implicitDefEqProofs [hX0, hX, hq1, hq2]
    try clear hX0 hX X
    intros
    refine hK _ _ _ ?_
    clear hK hGc hGh
    clear K Gc Gh
    repeat refine pw_seq ?_
    refine pw_ct rfl ?_
    refine pw_skip (pw_seq (pw_block ?_))
    repeat refine pw_seq ?_
    refine pw_N [] (by rfl) (by rfl) fun K Gc Gh hK hGc hGh X hX0 hX => ?_
    simp -implicitDefEqProofs [hX0, hX]
    try clear hX0 hX X
    intro v4
    refine hK _ _ _ ?_
    clear hK hGc hGh
    clear K Gc Gh
    refine pw_seq (pw_nilObX 4 0 59 1 rfl rfl fun v5 => ?_)
    repeat refine pw_seq ?_
    refine pw_N [] (by rfl) (by rfl) fun K Gc Gh hK hGc hGh X hX0 hX => ?_
    simp -implicitDefEqProofs [hX0, hX]
    try clear hX0 hX X
    intros
    refine hK _ _ _ ?_
    clear hK hGc hGh
    clear K Gc Gh
    repeat refine pw_seq ?_
    refine pw_joinK (nx := nx) (σ := Nat × Nat) (fun _ => True) (fun (v3, v5) => [(1, .ptr nx v0 0), (2, .ptr (nx + 1) v1 0), (3, .ptr (nx + 2) v2 0), (4, I a), (5, .ptr (nx + 4) v4 0)]) (fun _ => S) (fun (v3, v5) => [.cells v0 30 [L p], .cells v1 30 [.sc (.slice none 0 0)], .cells v2 30 [.sl (nx + 3) v3 1 0 out.length], .cells v3 45 (out.flatMap Enc.enc), .cells v4 45 [.sl (nx + 5) v5 1 0 (cutD d).length], .cells v5 59 ((cutD d).flatMap Enc.enc)]) ?_ ?_
    · refine pw_block (pw_loopL (fun s : Nat × Day × Nat => s.1 ≤ 6 ∧ s.1 ≤ d.length ∧ s.2.1 = (d.take s.1).map fun t => t.take 8) (fun (b, od, v5) => [(1, .ptr nx v0 0), (2, .ptr (nx + 1) v1 0), (3, .ptr (nx + 2) v2 0), (4, I a), (5, .ptr (nx + 4) v4 0), (6, I b)]) (fun (b, od, v5) => [.cells v0 30 [L p], .cells v1 30 [.sc (.slice none 0 0)], .cells v2 30 [.sl (nx + 3) v3 1 0 out.length], .cells v3 45 (out.flatMap Enc.enc), .cells v4 45 [.sl (nx + 5) v5 1 0 od.length], .cells v5 59 (od.flatMap Enc.enc)]) (fun s => 6 - s.1) (0, [], v5) [] (by simp) (by simp) (by simp) ?_)
      rintro ⟨b, od, v5⟩ ⟨hb6, hbd, hod⟩
      simp only at hb6 hbd hod ⊢
      have hodl : od.length = b := by rw [hod]; simp; omega
      have fin2 : (b = 6 ∨ b = d.length) → od = cutD d := by
        rintro (h | h)
        · rw [hod, h]; rfl
        · rw [hod, cutD, List.take_of_length_le (by omega), List.take_of_length_le (by omega)]
      by_cases hq3 : b < d.length
      case neg =>
        repeat refine pw_seq ?_
        refine pw_N [(9, 29)] (by rfl) (by rfl) fun K Gc Gh hK hGc hGh X hX0 hX => ?_
        simp -implicitDefEqProofs [hX0, hX, hq1, e0, hq3, undef]
        try clear hX0 hX X
        intros
        refine hK _ _ _ ?_
        clear hK hGc hGh
        clear K Gc Gh
        repeat refine pw_seq ?_
        refine pw_cf rfl ?_
        have hk := fin2 (.inr (by omega))
        exact pw_exit (at_mk (v3, v5) [] trivial (by simp) rfl (by simp only [← hk]; rfl))
      by_cases hq4 : (b : Int) < 6
      case neg =>
        repeat refine pw_seq ?_
        refine pw_N [(9, 29)] (by rfl) (by rfl) fun K Gc Gh hK hGc hGh X hX0 hX => ?_
        simp -implicitDefEqProofs [hX0, hX, hq1, e0, hq3, hq4]
        try clear hX0 hX X
        intros
        refine hK _ _ _ ?_
        clear hK hGc hGh
        clear K Gc Gh
        repeat refine pw_seq ?_
        refine pw_cf rfl ?_
        have hk := fin2 (.inl (by omega))
        exact pw_exit (at_mk (v3, v5) [] trivial (by simp) rfl (by simp only [← hk]; rfl))
      obtain ⟨t, tl2, b1, b2, b3, e2⟩ := el1 rfl d b hq3
      repeat refine pw_seq ?_
      refine pw_N [(9, 29)] (by rfl) (by rfl) fun K Gc Gh hK hGc hGh X hX0 hX => ?_
      simp -implicitDefEqProofs [hX0, hX, hq1, e0, hq3, hq4]
      try clear hX0 hX X
      intros
      refine hK _ _ _ ?_
      clear hK hGc hGh
      clear K Gc Gh
      repeat refine pw_seq ?_
      refine pw_ct rfl ?_
      refine pw_skip (pw_seq (pw_block ?_))
      repeat refine pw_seq ?_
      refine pw_N [] (by rfl) (by rfl) fun K Gc Gh hK hGc hGh X hX0 hX => ?_
      simp -implicitDefEqProofs [hX0, hX]
      try clear hX0 hX X
      intros
      refine hK _ _ _ ?_
      clear hK hGc hGh
      clear K Gc Gh
      refine pw_seq (pw_nilX 7 61 2 rfl fun v6 => ?_)
      repeat refine pw_seq ?_
      refine pw_N [] (by rfl) (by rfl) fun K Gc Gh hK hGc hGh X hX0 hX => ?_
      simp -implicitDefEqProofs [hX0, hX]
      try clear hX0 hX X
      intros
      refine hK _ _ _ ?_
      clear hK hGc hGh
      clear K Gc Gh
      repeat refine pw_seq ?_
      refine pw_joinK (nx := nx) (σ := Nat) (fun _ => True) (fun v6 => [(1, .ptr nx v0 0), (2, .ptr (nx + 1) v1 0), (3, .ptr (nx + 2) v2 0), (4, I a), (5, .ptr (nx + 4) v4 0), (6, I b), (7, .sl (nx + 6) v6 2 0 (t.take 8).length)]) (fun _ => S) (fun v6 => [.cells v0 30 [L p], .cells v1 30 [.sc (.slice none 0 0)], .cells v2 30 [.sl (nx + 3) v3 1 0 out.length], .cells v3 45 (out.flatMap Enc.enc), .cells v4 45 [.sl (nx + 5) v5 1 0 od.length], .cells v5 59 (od.flatMap Enc.enc), .cells v6 61 ((t.take 8).flatMap Enc.enc)]) ?_ ?_
      · refine pw_block (pw_loopL (fun s : Nat × Nat => s.1 ≤ 8 ∧ s.1 ≤ t.length) (fun (j, v6) => [(1, .ptr nx v0 0), (2, .ptr (nx + 1) v1 0), (3, .ptr (nx + 2) v2 0), (4, I a), (5, .ptr (nx + 4) v4 0), (6, I b), (7, .sl (nx + 6) v6 2 0 (t.take j).length), (8, I j)]) (fun (j, v6) => [.cells v0 30 [L p], .cells v1 30 [.sc (.slice none 0 0)], .cells v2 30 [.sl (nx + 3) v3 1 0 out.length], .cells v3 45 (out.flatMap Enc.enc), .cells v4 45 [.sl (nx + 5) v5 1 0 od.length], .cells v5 59 (od.flatMap Enc.enc), .cells v6 61 ((t.take j).flatMap Enc.enc)]) (fun s => 8 - s.1) (0, v6) [] (by simp) (by simp) (by simp) ?_)
        rintro ⟨j, v6⟩ ⟨hj8, hjt⟩
        simp only at hj8 hjt ⊢
        have fin3 : (j = 8 ∨ j = t.length) → t.take j = t.take 8 := by
          rintro (h | h)
          · rw [h]
          · rw [h, List.take_length, List.take_of_length_le (by omega)]
        by_cases hq5 : j < t.length
        case neg =>
          have hk := fin3 (.inr (by omega))
          rw [hk]
          repeat refine pw_seq ?_
          refine pw_N [(13, 48)] (by rfl) (by rfl) fun K Gc Gh hK hGc hGh X hX0 hX => ?_
          simp -implicitDefEqProofs [hX0, hX, hq1, e0, hq3, e2, hq5, undef]
          try clear hX0 hX X
          intros
          refine hK _ _ _ ?_
          clear hK hGc hGh
          clear K Gc Gh
          repeat refine pw_seq ?_
          refine pw_cf rfl ?_
          exact pw_exit (at_mk v6 [] trivial (by simp) rfl (by simp))
        by_cases hq6 : (j : Int) < 8
        case neg =>
          have hk := fin3 (.inl (by omega))
          rw [hk]
          repeat refine pw_seq ?_
          refine pw_N [(13, 48)] (by rfl) (by rfl) fun K Gc Gh hK hGc hGh X hX0 hX => ?_
          simp -implicitDefEqProofs [hX0, hX, hq1, e0, hq3, e2, hq5, hq6]
          try clear hX0 hX X
          intros
          refine hK _ _ _ ?_
          clear hK hGc hGh
          clear K Gc Gh
          repeat refine pw_seq ?_
          refine pw_cf rfl ?_
          exact pw_exit (at_mk v6 [] trivial (by simp) rfl (by simp))
        obtain ⟨s, tl3, c1, c2, c3, _, e3⟩ := el 2 rfl t j hq5
        have hjl : (t.take j).length = j := by simp; omega
        have hjl2 : (t.take (j + 1)).length = j + 1 := by simp; omega
        generalize htj : t.take j = tj at hjl c3
        repeat refine pw_seq ?_
        refine pw_N [(13, 48)] (by rfl) (by rfl) fun K Gc Gh hK hGc hGh X hX0 hX => ?_
        simp -implicitDefEqProofs [hX0, hX, hq1, e0, hq3, e2, hq5, hq6]
        try clear hX0 hX X
        intros
        refine hK _ _ _ ?_
        clear hK hGc hGh
        clear K Gc Gh
        repeat refine pw_seq ?_
        refine pw_ct rfl ?_
        refine pw_skip (pw_seq (pw_block ?_))
        repeat refine pw_seq ?_
        refine pw_N [] (by rfl) (by rfl) fun K Gc Gh hK hGc hGh X hX0 hX => ?_
        simp -implicitDefEqProofs [hX0, hX, hq1, e0, hq3, e2, hq5, e3]
        try clear hX0 hX X
        refine ⟨by omega, ?_⟩
        intros
        refine hK _ _ _ ?_
        clear hK hGc hGh
        clear K Gc Gh
        repeat refine pw_seq ?_
        refine pw_N [] (by rfl) (by rfl) fun K Gc Gh hK hGc hGh X hX0 hX => ?_
        simp -implicitDefEqProofs [hX0, hX]
        try clear hX0 hX X
        intros
        refine hK _ _ _ ?_
        clear hK hGc hGh
        clear K Gc Gh
        exact again_mk (j + 1, v6 + 1) [] ⟨by omega, by omega⟩ (by simp; omega) (by simp [wrN j (by omega), c3]) rfl (by simp [c3])
      · intro v6 _
        have hfr : (t.take 8).length * 2 = ((t.take 8).flatMap Enc.enc).length := by rw [flen_stop]
        generalize ht8 : t.take 8 = t8 at hfr ⊢
        refine pw_frz 6 rfl ?_
        repeat refine pw_seq ?_
        refine pw_N [] (by rfl) (by rfl) fun K Gc Gh hK hGc hGh X hX0 hX => ?_
        simp -implicitDefEqProofs [hX0, hX]
        try clear hX0 hX X
        refine ⟨by omega, ?_⟩
        intros
        refine hK _ _ _ ?_
        clear hK hGc hGh
        clear K Gc Gh
        repeat refine pw_seq ?_
        refine pw_N [] (by rfl) (by rfl) fun K Gc Gh hK hGc hGh X hX0 hX => ?_
        simp -implicitDefEqProofs [hX0, hX]
        try clear hX0 hX X
        intros
        refine hK _ _ _ ?_
        clear hK hGc hGh
        clear K Gc Gh
        exact again_mk (b + 1, od ++ [t8], v5 + 1) [.dead] ⟨by omega, by omega, by rw [b3, hod, ← ht8]; simp⟩ (by simp; omega) (by simp [wrN b (by omega)]) rfl (by simp)
    · rintro ⟨v3, v5⟩ -
      simp only
      have hc6 : (cutD d).length ≤ 6 := by simp [cutD]; omega
      generalize hcd : cutD d = cd at hc6 ⊢
      refine pw_frz 5 rfl ?_
      repeat refine pw_seq ?_
      refine pw_N [] (by rfl) (by rfl) fun K Gc Gh hK hGc hGh X hX0 hX => ?_
      simp -implicitDefEqProofs [hX0, hX]
      try clear hX0 hX X
      refine ⟨by omega, ?_⟩
      intros
      refine hK _ _ _ ?_
      clear hK hGc hGh
      clear K Gc Gh
      repeat refine pw_seq ?_
      refine pw_N [] (by rfl) (by rfl) fun K Gc Gh hK hGc hGh X hX0 hX => ?_
      simp -implicitDefEqProofs [hX0, hX]
      try clear hX0 hX X
      intros
      refine hK _ _ _ ?_
      clear hK hGc hGh
      clear K Gc Gh
      exact again_mk (a + 1, out ++ [cutD d], v3 + 1) [_, .dead] ⟨by omega, by omega, by rw [a3, ho]; simp⟩ (by simp; omega) (by simp [wrN a (by omega)]) rfl (by simp [hcd]; rfl)
  · intro v3 _
    repeat refine pw_seq ?_
    refine pw_N [] (by rfl) (by rfl) fun K Gc Gh hK hGc hGh X hX0 hX => ?_
    simp -implicitDefEqProofs [hX0, hX]
    try clear hX0 hX X
    intros
    refine hK _ _ _ ?_
    clear hK hGc hGh
    clear K Gc Gh
    repeat refine pw_seq ?_
    refine pw_ret ⟨_, _, by simp; rfl, ⟨v3, by simp [oneOf], rfl⟩, keep_one (j := 3) hd (by simp)⟩

theorem cut_ok (p : Plan) : Pure Tryz.prog 9 [.agg [L p]] (.agg [L (cutP p)]) :=
  own_pureA 3 (fun S nx hd => cut_own p S nx hd) (by rw [flen_list]; omega)

theorem cutP_sz (p : Plan) : PlanSz (cutP p) ∧ (cutP p).length ≤ 8 := by
  have hdl : ∀ d ∈ cutP p, d.length ≤ 6 ∧ ∀ t ∈ d, t.length ≤ 8 := by
    intro d hd
    simp only [cutP, List.mem_map] at hd
    obtain ⟨e, _, rfl⟩ := hd
    refine ⟨by simp [cutD]; omega, fun t ht => ?_⟩
    simp only [cutD, List.mem_map] at ht
    obtain ⟨u, _, rfl⟩ := ht
    simp; omega
  have hl : (cutP p).length ≤ 8 := by simp [cutP]; omega
  have hfl : ∀ d : Day, d.length ≤ 6 → (∀ t ∈ d, t.length ≤ 8) → d.flatten.length ≤ 48 := by
    have main : ∀ (d : Day), (∀ t ∈ d, t.length ≤ 8) → d.flatten.length ≤ 8 * d.length := by
      intro d; induction d with
      | nil => intro _; simp
      | cons t d ih =>
        intro h
        have h1 := ih fun u hu => h u (by simp [hu])
        have h2 := h t (by simp)
        simp only [List.flatten_cons, List.length_append, List.length_cons]; omega
    intro d h1 h2; have := main d h2; omega
  have hc : ∀ q : Plan, (∀ d ∈ q, d.flatten.length ≤ 48) → cntP q ≤ 48 * q.length := by
    intro q; induction q with
    | nil => intro _; simp [cntP]
    | cons d q ih =>
      intro h
      have h1 := ih fun u hu => h u (by simp [hu])
      have h2 := h d (by simp)
      simp only [cntP, List.map_cons, List.sum_cons, List.length_cons] at h1 ⊢; omega
  have hall : ∀ d ∈ cutP p, d.flatten.length ≤ 48 := fun d hd => hfl d (hdl d hd).1 (hdl d hd).2
  refine ⟨⟨⟨by omega, fun d hd => by have := (hdl d hd).1; omega, fun d hd t ht => by have := (hdl d hd).2 t ht; omega, ?_⟩, fun d hd => by have := hall d hd; omega⟩, hl⟩
  rw [told_cnt]
  have := hc _ hall
  omega

/-! ### lives -/

def lx : Inst := ⟨1, 1, 9, 9, [], [[0]]⟩
def ly : Inst := ⟨1, 1, 9, 9, [⟨1, 1, [1], 0, 0, 0, 0, 0⟩], [[0, 3], [4, 0]]⟩
def lp : Plan := [[]]
theorem instOk_lx : InstOk lx := by
  refine ⟨by simp [I64, lx], by simp [I64, lx], by simp [I64, lx], by simp [I64, lx], by simp [lx], by simp [lx], by simp [lx], ?_⟩
  simp [lx, I64]
theorem instOk_ly : InstOk ly := by
  refine ⟨by simp [I64, ly], by simp [I64, ly], by simp [I64, ly], by simp [I64, ly], by simp [ly], ?_, by simp [ly], ?_⟩
  · intro c hc
    simp only [ly, List.mem_singleton] at hc
    subst hc
    constructor <;> simp [I64]
  · intro r hr
    simp only [ly, List.mem_cons, List.not_mem_nil, or_false] at hr
    rcases hr with rfl | rfl <;> simp [I64]
theorem lp_sz : PlanSz lp := by
  refine ⟨⟨by simp [lp], by simp [lp], by simp [lp], by simp [lp, told]⟩, by simp [lp]⟩
theorem lp_plan : planE lx lp = 0 := by
  have hm : mayI lx = true := by simp [mayI, lx, fromB, distB, distR]
  have h1 : dayT lx [] = 0 := by simp [dayT, lx]
  simp only [planE, hm, lp, List.map_cons, List.map_nil, h1, firstE]
  simp [lx, firstE]
theorem bit1 : ∀ i : Nat, bitN 1 i = 1 ↔ i = 0 := by
  intro i
  cases i with
  | zero => simp [bitN]
  | succ i => simp [bitN, Nat.div_eq_of_lt (show 1 < 2 ^ (i + 1) from Nat.one_lt_two_pow (by omega))]
theorem next1 : nextD 1 1 = -1 := by
  have : daysTo 1 1 64 = [] := by
    simp only [daysTo, List.map_eq_nil_iff, List.filter_eq_nil_iff, List.mem_range, Bool.and_eq_true, decide_eq_true_eq]
    intro i _ ⟨h1, h2⟩
    have := (bit1 i).1 h2; omega
  simp [nextD, this]
theorem ly_plan : planE ly lp = 10 := by
  have hm : mayI ly = true := by
    simp [mayI, ly, fromB, distB, distR, custMayB, mustsL, patB, tanklessB, next1]
  have h1 : dayT ly [] = 0 := by simp [dayT, ly]
  have h2 : custE ly lp 0 = 10 := by simp [custE, ly, lp, told, visOf, perE, ofD]
  have e : (List.range ly.cust.length).map (custE ly lp) = [custE ly lp 0] := rfl
  unfold planE
  rw [e, h2, hm]
  simp only [lp, List.map_cons, List.map_nil, h1, firstE]
  simp [ly]

theorem lx_cost : costAll lx lp = 0 := by simp [costAll, holdTo, lx, lp, costZ]
theorem lx_serves : Serves lx lp := ⟨lp_sz.ok, by simp [lp, told], by simp [lp]⟩

set_option maxRecDepth 20000 in
theorem lives_ok : Pure Tryz.prog 13 [] (B true) := by
  have p1 := planP_ok lx lp instOk_lx lp_sz
  have p2 := planP_ok ly lp instOk_ly lp_sz
  have p3 := checkCost_ok lx lp lx_serves (by simp [lx]) (by simp [lx]) (by intro d hd; simp only [lp, List.mem_singleton] at hd; subst hd; exact ⟨by simp, by simp, by simp⟩)
  have p4 := checkDays_ok lx lp (by simp [lp]) (by intro d hd; simp only [lp, List.mem_singleton] at hd; subst hd; exact ⟨by simp, by simp, by simp⟩)
  rw [lp_plan] at p1
  rw [ly_plan] at p2
  rw [lx_cost] at p3
  have hl : (daysW lx lp).length = 1 := by simp [daysW, lp]
  generalize daysW lx lp = ds at p4 hl
  have e1 : (PV.agg (instL lx)) = .agg [I 1, I 1, I 9, I 9, .lst 0 [], .lst 1 [.lst 1 [I 0]]] := by simp [lx]
  have e2 : (PV.agg (instL ly)) = .agg [I 1, I 1, I 9, I 9, .lst 1 [I 1, I 1, .lst 1 [U 1], I 0, I 0, I 0, I 0, I 0], .lst 2 [.lst 2 [I 0, I 3], .lst 2 [I 4, I 0]]] := by simp [ly]
  have e3 : (PV.agg [L lp]) = .agg [.lst 1 [.lst 0 []]] := by simp [lp]
  rw [e1, e3] at p1 p3 p4
  rw [e2, e3] at p2
  refine pure_enter Tryz.func13 (by rfl) rfl Tryz.ntmps13 (congrArg Array.toList Tryz.results13) (by simp) fun S nx hd => ?_
  repeat refine pw_seq ?_
  refine pw_N [] (by rfl) (by rfl) fun K Gc Gh hK hGc hGh X hX0 hX => ?_
  simp -implicitDefEqProofs [hX0, hX]
  try clear hX0 hX X
  intros
  refine hK _ _ _ ?_
  clear hK hGc hGh
  clear K Gc Gh
  repeat refine pw_seq ?_
  refine pw_N [] (by rfl) (by rfl) fun K Gc Gh hK hGc hGh X hX0 hX => ?_
  simp -implicitDefEqProofs [hX0, hX]
  try clear hX0 hX X
  intro v1
  refine hK _ _ _ ?_
  clear hK hGc hGh
  clear K Gc Gh
  refine pw_nilC 0 4 rfl rfl ?_
  repeat refine pw_seq ?_
  refine pw_N [] (by rfl) (by rfl) fun K Gc Gh hK hGc hGh X hX0 hX => ?_
  simp -implicitDefEqProofs [hX0, hX]
  try clear hX0 hX X
  intro v2
  refine hK _ _ _ ?_
  clear hK hGc hGh
  clear K Gc Gh
  refine pw_wkO 1 [.lst 1 [.lst 0 []]] rfl (.cons (Wk.lst (.cons Wk.nil .nil)) .nil) ?_
  simp only [List.set_cons_succ, List.set_cons_zero]
  repeat refine pw_seq ?_
  refine pw_N [] (by rfl) (by rfl) fun K Gc Gh hK hGc hGh X hX0 hX => ?_
  simp -implicitDefEqProofs [hX0, hX]
  try clear hX0 hX X
  intro v3
  refine hK _ _ _ ?_
  clear hK hGc hGh
  clear K Gc Gh
  repeat refine pw_seq ?_
  refine pw_N [(4, 21), (10, 27), (17, 34)] (by rfl) (by rfl) fun K Gc Gh hK hGc hGh X hX0 hX => ?_
  simp -implicitDefEqProofs [hX]
  try clear hX0 hX X
  refine hGc _ _ _ _ _ _ _ fun hsuf => ((p1 _).mono ?_).v
  rintro _ _ ⟨rfl, rfl⟩
  refine ⟨_, _, rfl, ?_⟩
  clear hGc hGh
  clear Gc Gh
  refine xs_go hsuf (D := [(4, 21), (10, 27), (17, 34)]) (by rfl) fun Gc Gh hGc hGh X hX0 hX => ?_
  simp -implicitDefEqProofs [hX]
  try clear hX0 hX X
  refine hGc _ _ _ _ _ _ _ fun hsuf => ((p3 _).mono ?_).v
  rintro _ _ ⟨rfl, rfl⟩
  refine ⟨_, _, rfl, ?_⟩
  clear hGc hGh
  clear Gc Gh
  refine xs_go hsuf (D := [(4, 21), (10, 27), (17, 34)]) (by rfl) fun Gc Gh hGc hGh X hX0 hX => ?_
  simp -implicitDefEqProofs [hX]
  try clear hX0 hX X
  refine hGc _ _ _ _ _ _ _ fun hsuf => ((p4 _).mono ?_).v
  rintro _ _ ⟨rfl, rfl⟩
  refine ⟨_, _, rfl, ?_⟩
  clear hGc hGh
  clear Gc Gh
  refine xs_go hsuf (D := [(4, 21), (10, 27), (17, 34)]) (by rfl) fun Gc Gh hGc hGh X hX0 hX => ?_
  simp -implicitDefEqProofs [hX, hl]
  try clear hX0 hX X
  refine hGc _ _ _ _ _ _ _ fun hsuf => ((p2 _).mono ?_).v
  rintro _ _ ⟨rfl, rfl⟩
  refine ⟨_, _, rfl, ?_⟩
  clear hGc hGh
  clear Gc Gh
  refine xs_go hsuf (D := [(4, 21), (10, 27), (17, 34)]) (by rfl) fun Gc Gh hGc hGh X hX0 hX => ?_
  simp -implicitDefEqProofs [hX0, hX]
  try clear hX0 hX X
  intros
  refine hK _ _ _ ?_
  clear hK hGc hGh
  clear K Gc Gh
  repeat refine pw_seq ?_
  exact pw_ret (ret_pure hd (by simp; rfl) rfl)

end Go.Proofs.YtlkcdaeknioanaaGreat.Pv
