/- A plan of which something is turned. -/
import Derived.Test.YtlkcdaeknioanaaGreatMf
namespace Go.Proofs.YtlkcdaeknioanaaGreat.Pv
open Go

theorem first_idx {α : Type} (P : α → Prop) : ∀ (l : List α), (∃ a ∈ l, P a) → ∃ (i : Nat) (a : α), l[i]? = some a ∧ P a ∧ ∀ j < i, ∀ b, l[j]? = some b → ¬ P b
  | [], h => by obtain ⟨a, ha, _⟩ := h; cases ha
  | x :: l, h => by
    by_cases hx : P x
    · exact ⟨0, x, rfl, hx, fun j hj => by omega⟩
    · obtain ⟨i, a, h1, h2, h3⟩ := first_idx P l (by
        obtain ⟨a, ha, hp⟩ := h
        rcases List.mem_cons.1 ha with rfl | ha
        · exact absurd hp hx
        · exact ⟨a, ha, hp⟩)
      refine ⟨i + 1, a, by simpa using h1, h2, fun j hj b hb => ?_⟩
      match j with
      | 0 => simp at hb; rw [← hb]; exact hx
      | j + 1 => exact h3 j (by omega) b (by simpa using hb)

def Few (q : Plan) : Prop := q.length ≤ 8 ∧ ∀ d ∈ q, d.length ≤ 6 ∧ ∀ t ∈ d, t.length ≤ 8
theorem few_cut (p : Plan) : Few (cutP p) := by
  refine ⟨by simp [cutP]; omega, ?_⟩
  intro d hd
  simp only [cutP, List.mem_map] at hd
  obtain ⟨e, _, rfl⟩ := hd
  refine ⟨by simp [cutD]; omega, fun t ht => ?_⟩
  simp only [cutD, List.mem_map] at ht
  obtain ⟨u, _, rfl⟩ := ht
  simp; omega
theorem few_flat : ∀ (d : Day), (∀ t ∈ d, t.length ≤ 8) → d.flatten.length ≤ 8 * d.length
  | [], _ => by simp
  | t :: d, h => by
    have := few_flat d fun u hu => h u (by simp [hu])
    have := h t (by simp)
    simp only [List.flatten_cons, List.length_append, List.length_cons]; omega
theorem few_cnt : ∀ (p : Plan), (∀ d ∈ p, d.length ≤ 6 ∧ ∀ t ∈ d, t.length ≤ 8) → cntP p ≤ 48 * p.length
  | [], _ => by simp [cntP]
  | d :: p, h => by
    have h1 := few_cnt p fun u hu => h u (by simp [hu])
    have h2 := h d (by simp)
    have h3 := few_flat d h2.2
    simp only [cntP, List.map_cons, List.sum_cons, List.length_cons] at *; omega
theorem few_sz {q : Plan} (h : Few q) : PlanSz q := by
  obtain ⟨h1, h2⟩ := h
  have hc := few_cnt q h2
  refine ⟨⟨by omega, fun d hd => by have := (h2 d hd).1; omega, fun d hd t ht => by have := (h2 d hd).2 t ht; omega, by rw [told_cnt]; omega⟩, fun d hd => ?_⟩
  have := few_flat d (h2 d hd).2; have := (h2 d hd).1; omega
theorem few_take {q : Plan} (h : Few q) (k : Nat) : Few (q.take k) := ⟨by have := h.1; simp; omega, fun d hd => h.2 d (List.mem_of_mem_take hd)⟩
theorem few_set {q : Plan} (h : Few q) (k : Nat) {d : Day} (hd : d.length ≤ 6 ∧ ∀ t ∈ d, t.length ≤ 8) : Few (q.set k d) := by
  refine ⟨by rw [List.length_set]; exact h.1, fun e he => ?_⟩
  rcases List.mem_or_eq_of_mem_set he with he | rfl
  · exact h.2 e he
  · exact hd

/-! ### The end -/
section
variable {P : Program} {r : Rd} {n nx N : Nat} {Q : Exit → (Nat → PV) → Store → Prop} {F : Nat → PV} {S : Store} {c : Code}
theorem fin2 {v0 v1 v2 w5 e0 e1 e2 e5 : Nat} {q : Plan} {D T : Nat} {d0 : Day} {t' : Tour}
    (h : PW P r n N c Q (fun i => frzP (nx + 5) v2 ((q.set D (d0.set T t')).flatMap Enc.enc) (frzP (nx + 7) w5 ((d0.set T t').flatMap Enc.enc) (F i))) (ext S nx [.cells v0 e0 [L (q.set D (d0.set T t'))], .cells v1 e1 [.sc (.slice none 0 0)], .dead, .dead, .dead, .dead, .dead, .dead, .dead])) :
    PW P r n N c Q F (ext S nx [.cells v0 e0 [.sl (nx + 5) v2 1 0 q.length], .cells v1 e1 [.sc (.slice none 0 0)], .dead, .dead, .dead, .cells v2 e2 (mixL q D (.sl (nx + 7) w5 1 0 d0.length)), .dead, .cells w5 e5 (mixL d0 T (L t')), .dead]) := by
  rw [mix_enc]
  refine pw_frz 7 rfl ?_
  have e7 : frzP (nx + 7) w5 ((d0.set T t').flatMap Enc.enc) (.sl (nx + 7) w5 1 0 d0.length) = L (d0.set T t') := by
    simp only [frzP]
    rw [if_pos ⟨trivial, trivial, by rw [flen_list]; simp⟩]
    show _ = PV.lst _ _; rw [List.length_set]
  simp only [List.map_cons, List.map_nil, frzO, mix_frz, e7, List.set_cons_succ, List.set_cons_zero]
  rw [mix_enc, show frzP (nx + 7) w5 ((d0.set T t').flatMap Enc.enc) (.sl (nx + 5) v2 1 0 q.length) = .sl (nx + 5) v2 1 0 q.length from by simp only [frzP]; rw [if_neg (by omega)]]
  refine pw_frz 5 rfl ?_
  have e5' : frzP (nx + 5) v2 ((q.set D (d0.set T t')).flatMap Enc.enc) (.sl (nx + 5) v2 1 0 q.length) = L (q.set D (d0.set T t')) := by
    simp only [frzP]
    rw [if_pos ⟨trivial, trivial, by rw [flen_list]; simp⟩]
    show _ = PV.lst _ _; rw [List.length_set]
  simp only [List.map_cons, List.map_nil, frzO, e5', List.set_cons_succ, List.set_cons_zero]
  exact h
theorem fin3 {v0 v1 v2 w5 w6 e0 e1 e2 e5 e6 m : Nat} {q : Plan} {D T : Nat} {d0 : Day} {t' : Tour} (ht : t'.length = m)
    (h : PW P r n N c Q (fun i => frzP (nx + 5) v2 ((q.set D (d0.set T t')).flatMap Enc.enc) (frzP (nx + 7) w5 ((d0.set T t').flatMap Enc.enc) (frzP (nx + 8) w6 (t'.flatMap Enc.enc) (F i)))) (ext S nx [.cells v0 e0 [L (q.set D (d0.set T t'))], .cells v1 e1 [.sc (.slice none 0 0)], .dead, .dead, .dead, .dead, .dead, .dead, .dead])) :
    PW P r n N c Q F (ext S nx [.cells v0 e0 [.sl (nx + 5) v2 1 0 q.length], .cells v1 e1 [.sc (.slice none 0 0)], .dead, .dead, .dead, .cells v2 e2 (mixL q D (.sl (nx + 7) w5 1 0 d0.length)), .dead, .cells w5 e5 (mixL d0 T (.sl (nx + 8) w6 2 0 m)), .cells w6 e6 (t'.flatMap Enc.enc)]) := by
  refine pw_frz 8 rfl ?_
  have e8 : frzP (nx + 8) w6 (t'.flatMap Enc.enc) (.sl (nx + 8) w6 2 0 m) = L t' := by
    simp only [frzP]
    rw [if_pos ⟨trivial, trivial, by rw [flen_stop, ht]⟩]
    show _ = PV.lst _ _; rw [ht]
  simp only [List.map_cons, List.map_nil, frzO, mix_frz, e8, List.set_cons_succ, List.set_cons_zero]
  rw [show frzP (nx + 8) w6 (t'.flatMap Enc.enc) (.sl (nx + 5) v2 1 0 q.length) = .sl (nx + 5) v2 1 0 q.length from by simp only [frzP]; rw [if_neg (by omega)],
    show frzP (nx + 8) w6 (t'.flatMap Enc.enc) (.sl (nx + 7) w5 1 0 d0.length) = .sl (nx + 7) w5 1 0 d0.length from by simp only [frzP]; rw [if_neg (by omega)]]
  exact fin2 h
end

set_option maxRecDepth 20000 in
theorem turned_ok (p : Plan) (turn by' : Int) : RSpec Tryz.prog 14 [.agg [L p], I turn, I by'] (fun r => ∃ q', r = .agg [L q'] ∧ Few q') := by
  have hfew := few_cut p
  have hown := fun S nx hd => cut_own p S nx hd
  have hown2 := fun D T d0 t0 hD hT S nx hd => cut_own2 p D T d0 t0 hD hT S nx hd
  generalize cutP p = q at *
  have hq8 := hfew.1
  by_cases hne : (∃ d ∈ q, ∃ t ∈ d, t ≠ []) ∧ (turn = 1 ∨ turn = 2 ∨ turn = 3)
  case neg =>
    have hA : ∀ d ∈ q, ∀ t ∈ d, t ≠ [] → ¬ turn = 1 ∧ ¬ turn = 2 ∧ ¬ turn = 3 := by
      intro d hd t ht h
      refine ⟨fun e => hne ⟨⟨d, hd, t, ht, h⟩, .inl e⟩, fun e => hne ⟨⟨d, hd, t, ht, h⟩, .inr (.inl e)⟩, fun e => hne ⟨⟨d, hd, t, ht, h⟩, .inr (.inr e)⟩⟩
    refine rspec_enter Tryz.func14 (by rfl) rfl Tryz.ntmps14 (congrArg Array.toList Tryz.results14) (by simp) fun S nx hd => ?_
    repeat refine pw_seq ?_
    refine pw_N [] (by rfl) (by rfl) fun K Gc Gh hK hGc hGh X hX0 hX => ?_
    simp -implicitDefEqProofs [hX0, hX]
    try clear hX0 hX X
    intro v0 v1
    refine hK _ _ _ ?_
    clear hK hGc hGh
    clear K Gc Gh
    repeat refine pw_seq ?_
    refine pw_N [] (by rfl) (by rfl) fun K Gc Gh hK hGc hGh X hX0 hX => ?_
    simp -implicitDefEqProofs [hX]
    try clear hX0 hX X
    refine hGc _ _ _ _ _ _ _ fun hsuf => ((hown _ _ ext_dead).mono ?_).v
    rintro pp TT ⟨v2, rfl, rfl⟩
    refine ⟨_, _, ext_pushK 3 _, ?_⟩
    clear hGc hGh
    clear Gc Gh
    refine xs_go hsuf (D := []) (by rfl) fun Gc Gh hGc hGh X hX0 hX => ?_
    simp -implicitDefEqProofs [hX0, hX, (show nx + 2 + 3 = nx + 5 from rfl)]
    clear hX0 hX X
    intros
    refine hK _ _ _ ?_
    clear hK hGc hGh
    clear K Gc Gh
    repeat refine pw_seq ?_
    refine pw_N [] (by rfl) (by rfl) fun K Gc Gh hK hGc hGh X hX0 hX => ?_
    simp -implicitDefEqProofs [hX0, hX]
    try clear hX0 hX X
    intros
    refine hK _ _ _ ?_
    clear hK hGc hGh
    clear K Gc Gh
    repeat refine pw_seq ?_
    refine pw_block (pw_loopL (fun s : Nat => s ≤ q.length) (fun a => [(1, I turn), (2, I by'), (3, .ptr nx v0 0), (6, .ptr (nx + 1) v1 0), (7, I a)]) (fun _ => [.cells v0 30 [.sl (nx + 5) v2 1 0 q.length], .cells v1 30 [.sc (.slice none 0 0)], .dead, .dead, .dead, .cells v2 45 (q.flatMap Enc.enc)]) (fun s => q.length - s) 0 [] (by simp) (by simp) (by simp) ?_)
    rintro a ha
    repeat refine pw_seq ?_
    refine pw_N [] (by rfl) (by rfl) fun K Gc Gh hK hGc hGh X hX0 hX => ?_
    simp -implicitDefEqProofs [hX0, hX]
    try clear hX0 hX X
    intros
    refine hK _ _ _ ?_
    clear hK hGc hGh
    clear K Gc Gh
    repeat refine pw_seq ?_
    refine pw_cond rfl (fun hc => ?_) (fun hc => ?_)
    · simp at hc
      obtain ⟨d, tl, a1, a2, a3, e0⟩ := el1 rfl q a hc
      have hdm := List.mem_of_getElem? a1
      have hd6 := (hfew.2 d hdm).1
      refine pw_skip (pw_seq (pw_block ?_))
      repeat refine pw_seq ?_
      refine pw_N [] (by rfl) (by rfl) fun K Gc Gh hK hGc hGh X hX0 hX => ?_
      simp -implicitDefEqProofs [hX0, hX]
      try clear hX0 hX X
      intros
      refine hK _ _ _ ?_
      clear hK hGc hGh
      clear K Gc Gh
      repeat refine pw_seq ?_
      refine pw_block (pw_loopL (fun s : Nat => s ≤ d.length) (fun b => [(1, I turn), (2, I by'), (3, .ptr nx v0 0), (6, .ptr (nx + 1) v1 0), (7, I a), (8, I b)]) (fun _ => [.cells v0 30 [.sl (nx + 5) v2 1 0 q.length], .cells v1 30 [.sc (.slice none 0 0)], .dead, .dead, .dead, .cells v2 45 (q.flatMap Enc.enc)]) (fun s => d.length - s) 0 [] (by simp) (by simp) (by simp) ?_)
      rintro b hb
      repeat refine pw_seq ?_
      refine pw_N [] (by rfl) (by rfl) fun K Gc Gh hK hGc hGh X hX0 hX => ?_
      simp -implicitDefEqProofs [hX0, hX, hc, e0]
      try clear hX0 hX X
      intros
      refine hK _ _ _ ?_
      clear hK hGc hGh
      clear K Gc Gh
      repeat refine pw_seq ?_
      refine pw_cond rfl (fun hc2 => ?_) (fun hc2 => ?_)
      · simp at hc2
        obtain ⟨t, tl2, b1, b2, b3, e2⟩ := el1 rfl d b hc2
        have htm := List.mem_of_getElem? b1
        refine pw_skip (pw_seq (pw_block ?_))
        repeat refine pw_seq ?_
        refine pw_N [] (by rfl) (by rfl) fun K Gc Gh hK hGc hGh X hX0 hX => ?_
        simp -implicitDefEqProofs [hX0, hX, hc, e0, hc2, e2]
        try clear hX0 hX X
        intros
        refine hK _ _ _ ?_
        clear hK hGc hGh
        clear K Gc Gh
        by_cases ht : t = []
        · subst ht
          repeat refine pw_seq ?_
          refine pw_N [(3, 43)] (by rfl) (by rfl) fun K Gc Gh hK hGc hGh X hX0 hX => ?_
          simp -implicitDefEqProofs [hX0, hX, undef]
          try clear hX0 hX X
          intros
          refine hK _ _ _ ?_
          clear hK hGc hGh
          clear K Gc Gh
          repeat refine pw_seq ?_
          refine pw_ct (by simp) ?_
          refine pw_exit ?_
          repeat refine pw_seq ?_
          refine pw_N [] (by rfl) (by rfl) fun K Gc Gh hK hGc hGh X hX0 hX => ?_
          simp -implicitDefEqProofs [hX0, hX]
          try clear hX0 hX X
          intros
          refine hK _ _ _ ?_
          clear hK hGc hGh
          clear K Gc Gh
          exact again_mk (b + 1) [] hc2 (by omega) (by simp [wrN b (by omega)]) rfl (by simp)
        have htl : ¬ t.length = 0 := by simpa using ht
        by_cases h0 : turn = 0
        · subst h0
          repeat refine pw_seq ?_
          refine pw_N [(3, 43)] (by rfl) (by rfl) fun K Gc Gh hK hGc hGh X hX0 hX => ?_
          simp -implicitDefEqProofs [hX0, hX, htl]
          try clear hX0 hX X
          intros
          refine hK _ _ _ ?_
          clear hK hGc hGh
          clear K Gc Gh
          repeat refine pw_seq ?_
          refine pw_ct (by simp) ?_
          refine pw_exit ?_
          repeat refine pw_seq ?_
          refine pw_N [] (by rfl) (by rfl) fun K Gc Gh hK hGc hGh X hX0 hX => ?_
          simp -implicitDefEqProofs [hX0, hX]
          try clear hX0 hX X
          intros
          refine hK _ _ _ ?_
          clear hK hGc hGh
          clear K Gc Gh
          exact again_mk (b + 1) [] hc2 (by omega) (by simp [wrN b (by omega)]) rfl (by simp)
        obtain ⟨h1, h2, h3⟩ := hA d hdm t htm ht
        repeat refine pw_seq ?_
        refine pw_N [(3, 43)] (by rfl) (by rfl) fun K Gc Gh hK hGc hGh X hX0 hX => ?_
        simp -implicitDefEqProofs [hX0, hX, htl, h0]
        try clear hX0 hX X
        intros
        refine hK _ _ _ ?_
        clear hK hGc hGh
        clear K Gc Gh
        repeat refine pw_seq ?_
        refine pw_cf (by simp) ?_
        refine pw_skip ?_
        repeat refine pw_seq ?_
        refine pw_N [] (by rfl) (by rfl) fun K Gc Gh hK hGc hGh X hX0 hX => ?_
        simp -implicitDefEqProofs [hX0, hX]
        try clear hX0 hX X
        intros
        refine hK _ _ _ ?_
        clear hK hGc hGh
        clear K Gc Gh
        repeat refine pw_seq ?_
        refine pw_block ?_
        repeat refine pw_seq ?_
        refine pw_N [] (by rfl) (by rfl) fun K Gc Gh hK hGc hGh X hX0 hX => ?_
        simp -implicitDefEqProofs [hX0, hX]
        try clear hX0 hX X
        intros
        refine hK _ _ _ ?_
        clear hK hGc hGh
        clear K Gc Gh
        repeat refine pw_seq ?_
        refine pw_cf (by simp [h1]) ?_
        repeat refine pw_seq ?_
        refine pw_N [] (by rfl) (by rfl) fun K Gc Gh hK hGc hGh X hX0 hX => ?_
        simp -implicitDefEqProofs [hX0, hX]
        try clear hX0 hX X
        intros
        refine hK _ _ _ ?_
        clear hK hGc hGh
        clear K Gc Gh
        repeat refine pw_seq ?_
        refine pw_cf (by simp [h2]) ?_
        repeat refine pw_seq ?_
        refine pw_N [] (by rfl) (by rfl) fun K Gc Gh hK hGc hGh X hX0 hX => ?_
        simp -implicitDefEqProofs [hX0, hX]
        try clear hX0 hX X
        intros
        refine hK _ _ _ ?_
        clear hK hGc hGh
        clear K Gc Gh
        repeat refine pw_seq ?_
        refine pw_cf (by simp [h3]) ?_
        repeat refine pw_seq ?_
        refine pw_N [] (by rfl) (by rfl) fun K Gc Gh hK hGc hGh X hX0 hX => ?_
        simp -implicitDefEqProofs [hX0, hX]
        try clear hX0 hX X
        intros
        refine hK _ _ _ ?_
        clear hK hGc hGh
        clear K Gc Gh
        by_cases h4 : turn = 4
        · have htk : (q.take a).length = a := by simp; omega
          have hft : (q.flatMap Enc.enc).take a = (q.take a).flatMap Enc.enc := by have := flat_take (α := Day) Enc.enc 1 (fun _ => rfl) q a; rwa [Nat.mul_one] at this
          repeat refine pw_seq ?_
          refine pw_ct (by simp [h4]) ?_
          refine pw_frz 5 rfl ?_
          repeat refine pw_seq ?_
          refine pw_N [] (by rfl) (by rfl) fun K Gc Gh hK hGc hGh X hX0 hX => ?_
          simp -implicitDefEqProofs [hX0, hX, ha, hft]
          try clear hX0 hX X
          intros
          refine hK _ _ _ ?_
          clear hK hGc hGh
          clear K Gc Gh
          repeat refine pw_seq ?_
          refine pw_N [] (by rfl) (by rfl) fun K Gc Gh hK hGc hGh X hX0 hX => ?_
          simp -implicitDefEqProofs [hX0, hX]
          try clear hX0 hX X
          intros
          refine hK _ _ _ ?_
          clear hK hGc hGh
          clear K Gc Gh
          repeat refine pw_seq ?_
          exact pw_ret ⟨_, S, (by simp; rfl), ⟨⟨q.take a, by simp [oneOf, htk], few_take hfew a⟩, rfl⟩, ext_kill0 hd⟩
        repeat refine pw_seq ?_
        refine pw_cf (by simp [h4]) ?_
        repeat refine pw_seq ?_
        refine pw_N [] (by rfl) (by rfl) fun K Gc Gh hK hGc hGh X hX0 hX => ?_
        simp -implicitDefEqProofs [hX0, hX]
        try clear hX0 hX X
        intros
        refine hK _ _ _ ?_
        clear hK hGc hGh
        clear K Gc Gh
        by_cases h5 : turn = 5
        · repeat refine pw_seq ?_
          refine pw_ct (by simp [h5]) ?_
          have htk : (d.take b).length = b := by simp; omega
          have hft : (d.flatMap Enc.enc).take b = (d.take b).flatMap Enc.enc := by have := flat_take (α := Tour) Enc.enc 1 (fun _ => rfl) d b; rwa [Nat.mul_one] at this
          have hsd := splice_enc (α := Day) rfl q a (d.take b) hc
          have hsd' : splice (q.flatMap Enc.enc) a [PV.lst b ((d.take b).flatMap Enc.enc)] = (q.set a (d.take b)).flatMap Enc.enc := by rw [← hsd, enc_list]; show _ = splice _ _ [PV.lst _ _]; rw [htk]
          repeat refine pw_seq ?_
          refine pw_Y (some [nx]) (Row.pures [0, 1, 2, 3, 4, 5, 6, 7, 9] (.alt 8 (Row.pures [10, 11, 12] (.alt 13 (.done) .stop)) .stop)) mixed (by rfl) (by rfl) (by rfl) fun K Gp Gc Gh hK hGp hGc hGh X hX0 hX1 hX2 hX => ?_
          simp -implicitDefEqProofs [hX0, hX1, hX2, hX, hc, e0, hb, hft]
          try clear hX0 hX1 hX2 hX X
          refine ⟨hc, ?_⟩
          refine hK _ _ _ ?_
          clear hK hGp hGc hGh
          clear K Gp Gc Gh
          rw [hsd']
          refine pw_frz 5 rfl ?_
          repeat refine pw_seq ?_
          refine pw_N [] (by rfl) (by rfl) fun K Gc Gh hK hGc hGh X hX0 hX => ?_
          simp -implicitDefEqProofs [hX0, hX]
          try clear hX0 hX X
          intros
          refine hK _ _ _ ?_
          clear hK hGc hGh
          clear K Gc Gh
          repeat refine pw_seq ?_
          exact pw_ret ⟨_, S, (by simp; rfl), ⟨⟨q.set a (d.take b), by simp [oneOf, L], few_set hfew a ⟨by omega, fun u hu => (hfew.2 d hdm).2 u (List.mem_of_mem_take hu)⟩⟩, rfl⟩, ext_kill0 hd⟩
        repeat refine pw_seq ?_
        refine pw_cf (by simp [h5]) ?_
        refine pw_skip ?_
        refine pw_frz 5 rfl ?_
        repeat refine pw_seq ?_
        refine pw_N [] (by rfl) (by rfl) fun K Gc Gh hK hGc hGh X hX0 hX => ?_
        simp -implicitDefEqProofs [hX0, hX]
        try clear hX0 hX X
        intros
        refine hK _ _ _ ?_
        clear hK hGc hGh
        clear K Gc Gh
        repeat refine pw_seq ?_
        exact pw_ret ⟨_, S, (by simp; rfl), ⟨⟨q, by simp [oneOf], hfew⟩, rfl⟩, ext_kill0 hd⟩
      · simp at hc2
        refine pw_exit ?_
        repeat refine pw_seq ?_
        refine pw_N [] (by rfl) (by rfl) fun K Gc Gh hK hGc hGh X hX0 hX => ?_
        simp -implicitDefEqProofs [hX0, hX]
        try clear hX0 hX X
        intros
        refine hK _ _ _ ?_
        clear hK hGc hGh
        clear K Gc Gh
        exact again_mk (a + 1) [] hc (by omega) (by simp [wrN a (by omega)]) rfl (by simp)
    · refine pw_exit ?_
      refine pw_frz 5 rfl ?_
      repeat refine pw_seq ?_
      refine pw_N [] (by rfl) (by rfl) fun K Gc Gh hK hGc hGh X hX0 hX => ?_
      simp -implicitDefEqProofs [hX0, hX]
      try clear hX0 hX X
      intros
      refine hK _ _ _ ?_
      clear hK hGc hGh
      clear K Gc Gh
      repeat refine pw_seq ?_
      exact pw_ret ⟨_, S, (by simp; rfl), ⟨⟨q, by simp [oneOf], hfew⟩, rfl⟩, ext_kill0 hd⟩
  obtain ⟨hne, hturn⟩ := hne
  obtain ⟨D, d0, hD, hP0, hE1⟩ := first_idx (fun d : Day => ∃ t ∈ d, t ≠ []) q hne
  obtain ⟨T, t0, hT, hP1, hE2⟩ := first_idx (fun t : Tour => t ≠ []) d0 hP0
  have hDl : D < q.length := (List.getElem?_eq_some_iff.1 hD).1
  have hTl : T < d0.length := (List.getElem?_eq_some_iff.1 hT).1
  have hd06 := hfew.2 d0 (List.mem_of_getElem? hD)
  have ht08 := hd06.2 t0 (List.mem_of_getElem? hT)
  have hset : ∀ t' : Tour, t'.length ≤ 8 → Few (q.set D (d0.set T t')) := by
    intro t' h
    refine few_set hfew D ⟨by rw [List.length_set]; exact hd06.1, fun u hu => ?_⟩
    rcases List.mem_or_eq_of_mem_set hu with hu | rfl
    · exact hd06.2 u hu
    · exact h
  refine rspec_enter Tryz.func14 (by rfl) rfl Tryz.ntmps14 (congrArg Array.toList Tryz.results14) (by simp) fun S nx hd => ?_
  repeat refine pw_seq ?_
  refine pw_N [] (by rfl) (by rfl) fun K Gc Gh hK hGc hGh X hX0 hX => ?_
  simp -implicitDefEqProofs [hX0, hX]
  try clear hX0 hX X
  intro v0 v1
  refine hK _ _ _ ?_
  clear hK hGc hGh
  clear K Gc Gh
  repeat refine pw_seq ?_
  refine pw_N [] (by rfl) (by rfl) fun K Gc Gh hK hGc hGh X hX0 hX => ?_
  simp -implicitDefEqProofs [hX]
  try clear hX0 hX X
  refine hGc _ _ _ _ _ _ _ fun hsuf => ((hown2 D T d0 t0 hD hT _ _ ext_dead).mono ?_).v
  rintro pp TT ⟨v2, w5, w6, rfl, rfl⟩
  refine ⟨_, _, ext_ext _ _ rfl, ?_⟩
  clear hGc hGh
  clear Gc Gh
  refine xs_go hsuf (D := []) (by rfl) fun Gc Gh hGc hGh X hX0 hX => ?_
  simp -implicitDefEqProofs [hX0, hX, (show nx + 2 + 3 = nx + 5 from rfl), (show nx + 2 + 5 = nx + 7 from rfl), (show nx + 2 + 6 = nx + 8 from rfl)]
  clear hX0 hX X
  intros
  refine hK _ _ _ ?_
  clear hK hGc hGh
  clear K Gc Gh
  repeat refine pw_seq ?_
  refine pw_N [] (by rfl) (by rfl) fun K Gc Gh hK hGc hGh X hX0 hX => ?_
  simp -implicitDefEqProofs [hX0, hX]
  try clear hX0 hX X
  intros
  refine hK _ _ _ ?_
  clear hK hGc hGh
  clear K Gc Gh
  repeat refine pw_seq ?_
  refine pw_block (pw_loopL (fun s : Nat => s ≤ D) (fun a => [(1, I turn), (2, I by'), (3, .ptr nx v0 0), (6, .ptr (nx + 1) v1 0), (7, I a)]) (fun _ => [.cells v0 30 [.sl (nx + 5) v2 1 0 q.length], .cells v1 30 [.sc (.slice none 0 0)], .dead, .dead, .dead, .cells v2 45 (mixL q D (.sl (nx + 7) w5 1 0 d0.length)), .dead, .cells w5 59 (mixL d0 T (.sl (nx + 8) w6 2 0 t0.length)), .cells w6 61 (t0.flatMap Enc.enc)]) (fun s => D - s) 0 [] (by simp) (by simp) (by simp) ?_)
  rintro a ha
  have hc : a < q.length := by omega
  repeat refine pw_seq ?_
  refine pw_N [] (by rfl) (by rfl) fun K Gc Gh hK hGc hGh X hX0 hX => ?_
  simp -implicitDefEqProofs [hX0, hX]
  try clear hX0 hX X
  intros
  refine hK _ _ _ ?_
  clear hK hGc hGh
  clear K Gc Gh
  repeat refine pw_seq ?_
  refine pw_ct (by simp; omega) ?_
  by_cases haD : a = D
  · subst haD
    obtain ⟨tlm, em⟩ := mix_drop_eq hc (.sl (nx + 7) w5 1 0 d0.length)
    refine pw_skip (pw_seq (pw_block ?_))
    repeat refine pw_seq ?_
    refine pw_N [] (by rfl) (by rfl) fun K Gc Gh hK hGc hGh X hX0 hX => ?_
    simp -implicitDefEqProofs [hX0, hX]
    try clear hX0 hX X
    intros
    refine hK _ _ _ ?_
    clear hK hGc hGh
    clear K Gc Gh
    repeat refine pw_seq ?_
    refine pw_block (pw_loopL (fun s : Nat => s ≤ T) (fun b => [(1, I turn), (2, I by'), (3, .ptr nx v0 0), (6, .ptr (nx + 1) v1 0), (7, I a), (8, I b)]) (fun _ => [.cells v0 30 [.sl (nx + 5) v2 1 0 q.length], .cells v1 30 [.sc (.slice none 0 0)], .dead, .dead, .dead, .cells v2 45 (mixL q a (.sl (nx + 7) w5 1 0 d0.length)), .dead, .cells w5 59 (mixL d0 T (.sl (nx + 8) w6 2 0 t0.length)), .cells w6 61 (t0.flatMap Enc.enc)]) (fun s => T - s) 0 [] (by simp) (by simp) (by simp) ?_)
    rintro b hb
    have hc2 : b < d0.length := by omega
    repeat refine pw_seq ?_
    refine pw_N [] (by rfl) (by rfl) fun K Gc Gh hK hGc hGh X hX0 hX => ?_
    simp -implicitDefEqProofs [hX0, hX, hc, em]
    try clear hX0 hX X
    intros
    refine hK _ _ _ ?_
    clear hK hGc hGh
    clear K Gc Gh
    repeat refine pw_seq ?_
    refine pw_ct (by simp; omega) ?_
    refine pw_skip (pw_seq (pw_block ?_))
    by_cases hbT : b = T
    · subst hbT
      obtain ⟨tlm2, em2⟩ := mix_drop_eq hc2 (.sl (nx + 8) w6 2 0 t0.length)
      obtain ⟨s0, t1, rfl⟩ : ∃ s0 t1, t0 = s0 :: t1 := by
        cases t0 with
        | nil => exact absurd rfl hP1
        | cons s0 t1 => exact ⟨s0, t1, rfl⟩
      have hsp1 : splice ((s0 :: t1).flatMap Enc.enc) 1 [I by'] = ((⟨s0.c, by'⟩ : Stop) :: t1).flatMap Enc.enc := by simp [splice]
      have hsp2 : splice ((s0 :: t1).flatMap Enc.enc) 0 [I by'] = ((⟨by', s0.q⟩ : Stop) :: t1).flatMap Enc.enc := by simp [splice]
      have hfl : ((s0 :: t1).flatMap Enc.enc).length = t1.length * 2 + 2 := by rw [flen_stop]; simp; omega
      have hml : (s0 :: t1).length = t1.length + 1 := rfl
      have hdr : ((s0 :: t1).flatMap Enc.enc).drop 2 = t1.flatMap Enc.enc := rfl
      generalize ht0 : s0 :: t1 = t0 at *
      have hnz : ¬ t0.length = 0 := by omega
      have hnt : ¬ turn = 0 := by omega
      repeat refine pw_seq ?_
      refine pw_N [] (by rfl) (by rfl) fun K Gc Gh hK hGc hGh X hX0 hX => ?_
      simp -implicitDefEqProofs [hX0, hX, hc, em, hc2, em2]
      try clear hX0 hX X
      intros
      refine hK _ _ _ ?_
      clear hK hGc hGh
      clear K Gc Gh
      repeat refine pw_seq ?_
      refine pw_N [(3, 43)] (by rfl) (by rfl) fun K Gc Gh hK hGc hGh X hX0 hX => ?_
      simp -implicitDefEqProofs [hX0, hX, hnz, hnt]
      try clear hX0 hX X
      intros
      refine hK _ _ _ ?_
      clear hK hGc hGh
      clear K Gc Gh
      repeat refine pw_seq ?_
      refine pw_cf (by simp) ?_
      refine pw_skip ?_
      repeat refine pw_seq ?_
      refine pw_N [] (by rfl) (by rfl) fun K Gc Gh hK hGc hGh X hX0 hX => ?_
      simp -implicitDefEqProofs [hX0, hX]
      try clear hX0 hX X
      intros
      refine hK _ _ _ ?_
      clear hK hGc hGh
      clear K Gc Gh
      repeat refine pw_seq ?_
      refine pw_block ?_
      have hpos : 0 < t0.length := by omega
      rcases hturn with rfl | rfl | rfl
      · repeat refine pw_seq ?_
        refine pw_N [] (by rfl) (by rfl) fun K Gc Gh hK hGc hGh X hX0 hX => ?_
        simp -implicitDefEqProofs [hX0, hX]
        try clear hX0 hX X
        intros
        refine hK _ _ _ ?_
        clear hK hGc hGh
        clear K Gc Gh
        repeat refine pw_seq ?_
        refine pw_ct (by simp) ?_
        repeat refine pw_seq ?_
        refine pw_N [] (by rfl) (by rfl) fun K Gc Gh hK hGc hGh X hX0 hX => ?_
        simp -implicitDefEqProofs [hX0, hX, hpos, hsp1]
        try clear hX0 hX X
        refine ⟨by omega, ?_⟩
        intros
        refine hK _ _ _ ?_
        clear hK hGc hGh
        clear K Gc Gh
        refine fin3 (t' := ⟨s0.c, by'⟩ :: t1) (by rw [hml]; rfl) ?_
        repeat refine pw_seq ?_
        refine pw_N [] (by rfl) (by rfl) fun K Gc Gh hK hGc hGh X hX0 hX => ?_
        simp -implicitDefEqProofs [hX0, hX]
        try clear hX0 hX X
        intros
        refine hK _ _ _ ?_
        clear hK hGc hGh
        clear K Gc Gh
        repeat refine pw_seq ?_
        exact pw_ret ⟨_, S, (by simp; rfl), ⟨⟨_, by simp [oneOf], hset (⟨s0.c, by'⟩ :: t1) (by rw [List.length_cons]; omega)⟩, rfl⟩, ext_kill0 hd⟩
      · repeat refine pw_seq ?_
        refine pw_N [] (by rfl) (by rfl) fun K Gc Gh hK hGc hGh X hX0 hX => ?_
        simp -implicitDefEqProofs [hX0, hX]
        try clear hX0 hX X
        intros
        refine hK _ _ _ ?_
        clear hK hGc hGh
        clear K Gc Gh
        repeat refine pw_seq ?_
        refine pw_cf (by simp) ?_
        repeat refine pw_seq ?_
        refine pw_N [] (by rfl) (by rfl) fun K Gc Gh hK hGc hGh X hX0 hX => ?_
        simp -implicitDefEqProofs [hX0, hX]
        try clear hX0 hX X
        intros
        refine hK _ _ _ ?_
        clear hK hGc hGh
        clear K Gc Gh
        repeat refine pw_seq ?_
        refine pw_ct (by simp) ?_
        repeat refine pw_seq ?_
        refine pw_N [] (by rfl) (by rfl) fun K Gc Gh hK hGc hGh X hX0 hX => ?_
        simp -implicitDefEqProofs [hX0, hX, hpos, hsp2]
        try clear hX0 hX X
        refine ⟨by omega, ?_⟩
        intros
        refine hK _ _ _ ?_
        clear hK hGc hGh
        clear K Gc Gh
        refine fin3 (t' := ⟨by', s0.q⟩ :: t1) (by rw [hml]; rfl) ?_
        repeat refine pw_seq ?_
        refine pw_N [] (by rfl) (by rfl) fun K Gc Gh hK hGc hGh X hX0 hX => ?_
        simp -implicitDefEqProofs [hX0, hX]
        try clear hX0 hX X
        intros
        refine hK _ _ _ ?_
        clear hK hGc hGh
        clear K Gc Gh
        repeat refine pw_seq ?_
        exact pw_ret ⟨_, S, (by simp; rfl), ⟨⟨_, by simp [oneOf], hset (⟨by', s0.q⟩ :: t1) (by rw [List.length_cons]; omega)⟩, rfl⟩, ext_kill0 hd⟩
      · repeat refine pw_seq ?_
        refine pw_N [] (by rfl) (by rfl) fun K Gc Gh hK hGc hGh X hX0 hX => ?_
        simp -implicitDefEqProofs [hX0, hX]
        try clear hX0 hX X
        intros
        refine hK _ _ _ ?_
        clear hK hGc hGh
        clear K Gc Gh
        repeat refine pw_seq ?_
        refine pw_cf (by simp) ?_
        repeat refine pw_seq ?_
        refine pw_N [] (by rfl) (by rfl) fun K Gc Gh hK hGc hGh X hX0 hX => ?_
        simp -implicitDefEqProofs [hX0, hX]
        try clear hX0 hX X
        intros
        refine hK _ _ _ ?_
        clear hK hGc hGh
        clear K Gc Gh
        repeat refine pw_seq ?_
        refine pw_cf (by simp) ?_
        repeat refine pw_seq ?_
        refine pw_N [] (by rfl) (by rfl) fun K Gc Gh hK hGc hGh X hX0 hX => ?_
        simp -implicitDefEqProofs [hX0, hX]
        try clear hX0 hX X
        intros
        refine hK _ _ _ ?_
        clear hK hGc hGh
        clear K Gc Gh
        repeat refine pw_seq ?_
        refine pw_ct (by simp) ?_
        refine pw_frz 8 rfl ?_
        have hms : ∀ x y, splice (mixL d0 b x) b [y] = mixL d0 b y := fun x y => mix_splice hc2 x y
        have hone : 1 ≤ t0.length := by omega
        have hm1 : t0.length - 1 = t1.length := by omega
        repeat refine pw_seq ?_
        refine pw_Y (some [nx, nx + 5]) (Row.pures [0, 1, 2, 3, 4, 5, 6, 7, 8, 9, 10] (.alt 11 (.done) .stop)) mixed (by rfl) (by rfl) (by rfl) fun K Gp Gc Gh hK hGp hGc hGh X hX0 hX1 hX2 hX => ?_
        simp -implicitDefEqProofs [hX0, hX1, hX2, hX, hc, em, hc2, mix_frz, hms, hone, hm1, hdr]
        try clear hX0 hX1 hX2 hX X
        refine ⟨hc2, ?_⟩
        refine hK _ _ _ ?_
        clear hK hGp hGc hGh
        clear K Gp Gc Gh
        refine fin2 (t' := t1) ?_
        repeat refine pw_seq ?_
        refine pw_N [] (by rfl) (by rfl) fun K Gc Gh hK hGc hGh X hX0 hX => ?_
        simp -implicitDefEqProofs [hX0, hX]
        try clear hX0 hX X
        intros
        refine hK _ _ _ ?_
        clear hK hGc hGh
        clear K Gc Gh
        repeat refine pw_seq ?_
        exact pw_ret ⟨_, S, (by simp; rfl), ⟨⟨_, by simp [oneOf], hset t1 (by omega)⟩, rfl⟩, ext_kill0 hd⟩
    · obtain ⟨t, tl2, b1, b2, b3, e2⟩ := el1 rfl d0 b hc2
      obtain rfl : t = [] := Decidable.not_not.1 (hE2 b (by omega) t b1)
      obtain ⟨tlm2, em2⟩ := mix_drop_ne hbT e2 (.sl (nx + 8) w6 2 0 t0.length)
      repeat refine pw_seq ?_
      refine pw_N [] (by rfl) (by rfl) fun K Gc Gh hK hGc hGh X hX0 hX => ?_
      simp -implicitDefEqProofs [hX0, hX, hc, em, hc2, em2]
      try clear hX0 hX X
      intros
      refine hK _ _ _ ?_
      clear hK hGc hGh
      clear K Gc Gh
      repeat refine pw_seq ?_
      refine pw_N [(3, 43)] (by rfl) (by rfl) fun K Gc Gh hK hGc hGh X hX0 hX => ?_
      simp -implicitDefEqProofs [hX0, hX, undef]
      try clear hX0 hX X
      intros
      refine hK _ _ _ ?_
      clear hK hGc hGh
      clear K Gc Gh
      repeat refine pw_seq ?_
      refine pw_ct (by simp) ?_
      refine pw_exit ?_
      repeat refine pw_seq ?_
      refine pw_N [] (by rfl) (by rfl) fun K Gc Gh hK hGc hGh X hX0 hX => ?_
      simp -implicitDefEqProofs [hX0, hX]
      try clear hX0 hX X
      intros
      refine hK _ _ _ ?_
      clear hK hGc hGh
      clear K Gc Gh
      exact again_mk (b + 1) [] (by omega) (by omega) (by simp [wrN b (by omega)]) rfl (by simp)
  · obtain ⟨d, tl, a1, a2, a3, e0⟩ := el1 rfl q a hc
    have hem : ∀ t ∈ d, t = [] := fun t ht => Decidable.not_not.1 fun h => hE1 a (by omega) d a1 ⟨t, ht, h⟩
    have hd6 := (hfew.2 d (List.mem_of_getElem? a1)).1
    obtain ⟨tlm, em⟩ := mix_drop_ne haD e0 (.sl (nx + 7) w5 1 0 d0.length)
    refine pw_skip (pw_seq (pw_block ?_))
    repeat refine pw_seq ?_
    refine pw_N [] (by rfl) (by rfl) fun K Gc Gh hK hGc hGh X hX0 hX => ?_
    simp -implicitDefEqProofs [hX0, hX]
    try clear hX0 hX X
    intros
    refine hK _ _ _ ?_
    clear hK hGc hGh
    clear K Gc Gh
    repeat refine pw_seq ?_
    refine pw_block (pw_loopL (fun s : Nat => s ≤ d.length) (fun b => [(1, I turn), (2, I by'), (3, .ptr nx v0 0), (6, .ptr (nx + 1) v1 0), (7, I a), (8, I b)]) (fun _ => [.cells v0 30 [.sl (nx + 5) v2 1 0 q.length], .cells v1 30 [.sc (.slice none 0 0)], .dead, .dead, .dead, .cells v2 45 (mixL q D (.sl (nx + 7) w5 1 0 d0.length)), .dead, .cells w5 59 (mixL d0 T (.sl (nx + 8) w6 2 0 t0.length)), .cells w6 61 (t0.flatMap Enc.enc)]) (fun s => d.length - s) 0 [] (by simp) (by simp) (by simp) ?_)
    rintro b hb
    repeat refine pw_seq ?_
    refine pw_N [] (by rfl) (by rfl) fun K Gc Gh hK hGc hGh X hX0 hX => ?_
    simp -implicitDefEqProofs [hX0, hX, hc, em]
    try clear hX0 hX X
    intros
    refine hK _ _ _ ?_
    clear hK hGc hGh
    clear K Gc Gh
    repeat refine pw_seq ?_
    refine pw_cond rfl (fun hc2 => ?_) (fun hc2 => ?_)
    · simp at hc2
      obtain ⟨t, tl2, b1, b2, b3, e2⟩ := el1 rfl d b hc2
      obtain rfl := hem t (List.mem_of_getElem? b1)
      refine pw_skip (pw_seq (pw_block ?_))
      repeat refine pw_seq ?_
      refine pw_N [] (by rfl) (by rfl) fun K Gc Gh hK hGc hGh X hX0 hX => ?_
      simp -implicitDefEqProofs [hX0, hX, hc, em, hc2, e2]
      try clear hX0 hX X
      intros
      refine hK _ _ _ ?_
      clear hK hGc hGh
      clear K Gc Gh
      repeat refine pw_seq ?_
      refine pw_N [(3, 43)] (by rfl) (by rfl) fun K Gc Gh hK hGc hGh X hX0 hX => ?_
      simp -implicitDefEqProofs [hX0, hX, undef]
      try clear hX0 hX X
      intros
      refine hK _ _ _ ?_
      clear hK hGc hGh
      clear K Gc Gh
      repeat refine pw_seq ?_
      refine pw_ct (by simp) ?_
      refine pw_exit ?_
      repeat refine pw_seq ?_
      refine pw_N [] (by rfl) (by rfl) fun K Gc Gh hK hGc hGh X hX0 hX => ?_
      simp -implicitDefEqProofs [hX0, hX]
      try clear hX0 hX X
      intros
      refine hK _ _ _ ?_
      clear hK hGc hGh
      clear K Gc Gh
      exact again_mk (b + 1) [] hc2 (by omega) (by simp [wrN b (by omega)]) rfl (by simp)
    · simp at hc2
      refine pw_exit ?_
      repeat refine pw_seq ?_
      refine pw_N [] (by rfl) (by rfl) fun K Gc Gh hK hGc hGh X hX0 hX => ?_
      simp -implicitDefEqProofs [hX0, hX]
      try clear hX0 hX X
      intros
      refine hK _ _ _ ?_
      clear hK hGc hGh
      clear K Gc Gh
      exact again_mk (a + 1) [] (by omega) (by omega) (by simp [wrN a (by omega)]) rfl (by simp)

end Go.Proofs.YtlkcdaeknioanaaGreat.Pv
