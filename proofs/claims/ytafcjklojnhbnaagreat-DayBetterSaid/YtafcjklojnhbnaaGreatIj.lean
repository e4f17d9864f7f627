/- A day of good stops, cut in tours. -/
import Derived.Test.YtafcjklojnhbnaaGreatIi
namespace Go.Proofs.YtafcjklojnhbnaaGreat.Pv
open Go

/-- Tours that are finished, the one that is being filled, what is left. -/
def toursG (cuts : List Bool) : Nat → Day → List Stop → List Stop → Day
  | _, done, cur, [] => done ++ [cur]
  | i, done, cur, s :: rest => bif cuts.getD i false then toursG cuts (i + 1) (done ++ [cur]) [s] rest else toursG cuts (i + 1) done (cur ++ [s]) rest
def toursOf (cuts : List Bool) : List Stop → Day
  | [] => []
  | s :: rest => toursG cuts 1 [] [s] rest

theorem flat_last {α : Type} [Enc α] (hn : Enc.sz α = 1) (l : List α) (x : PV) : (l.flatMap Enc.enc ++ [x]).drop l.length = [x] := by
  have : (l.flatMap Enc.enc).length = l.length := by rw [flat_length, hn, Nat.mul_one]
  rw [← this, List.drop_left]
theorem splice_last {α : Type} [Enc α] (hn : Enc.sz α = 1) (l : List α) (x y : PV) : splice (l.flatMap Enc.enc ++ [x]) l.length [y] = l.flatMap Enc.enc ++ [y] := by
  have : (l.flatMap Enc.enc).length = l.length := by rw [flat_length, hn, Nat.mul_one]
  rw [splice, ← this, List.take_left, List.length_singleton, List.drop_of_length_le (by simp), List.append_nil]

set_option maxRecDepth 10000 in
theorem tours_ok (x : Inst) (l : List Stop) (cuts : List Bool) (hl : l.length ≤ 9223372036854775807) (hc : cuts.length ≤ 9223372036854775807) (hx : x.cust.length ≤ 1048576) (hs : ∀ s ∈ l, StopOk s) (hg : (goodL x.cust.length [] l).length ≤ 6) :
    Pure Tryz.prog 22 [.agg (instL x), L l, L cuts] (.agg [L (toursOf cuts (goodL x.cust.length [] l))]) := by
  have hgood := goodS_ok x l hl hx hs
  generalize goodL x.cust.length [] l = g at *
  refine pure_enter Tryz.func22 (by rfl) rfl Tryz.ntmps22 (congrArg Array.toList Tryz.results22) (by simp) fun S nx hd => ?_
  repeat refine pw_seq ?_
  refine pw_N [] (by rfl) (by rfl) fun K Gc Gh hK hGc hGh X hX0 hX => ?_
  simp -implicitDefEqProofs [hX0, hX]
  try clear hX0 hX X
  intro v0 v1
  refine hK _ _ _ ?_
  clear hK hGc hGh
  clear K Gc Gh
  repeat refine pw_seq ?_
  refine pw_N [] (by rfl) (by rfl) fun K Gc Gh hK hGc hGh X hX0 hX => ?_
  simp -implicitDefEqProofs [hX0, hX]
  try clear hX0 hX X
  intro v2
  refine hK _ _ _ ?_
  clear hK hGc hGh
  clear K Gc Gh
  repeat refine pw_seq ?_
  refine pw_N [] (by rfl) (by rfl) fun K Gc Gh hK hGc hGh X hX0 hX => ?_
  simp -implicitDefEqProofs [hX]
  try clear hX0 hX X
  refine hGc _ _ _ _ _ _ _ fun hsuf => ((hgood _).mono ?_).v
  rintro _ _ ⟨rfl, rfl⟩
  refine ⟨_, _, rfl, ?_⟩
  clear hGc hGh
  clear Gc Gh
  refine xs_go hsuf (D := []) (by rfl) fun Gc Gh hGc hGh X hX0 hX => ?_
  simp -implicitDefEqProofs [hX0, hX]
  try clear hX0 hX X
  intros
  refine hK _ _ _ ?_
  clear hK hGc hGh
  clear K Gc Gh
  refine pw_seq (pw_nilObX 2 0 66 1 rfl rfl fun v3 => ?_)
  repeat refine pw_seq ?_
  refine pw_N [] (by rfl) (by rfl) fun K Gc Gh hK hGc hGh X hX0 hX => ?_
  simp -implicitDefEqProofs [hX0, hX]
  try clear hX0 hX X
  intros
  refine hK _ _ _ ?_
  clear hK hGc hGh
  clear K Gc Gh
  repeat refine pw_seq ?_
  refine pw_block (pw_loopL (fun s : Nat × Day × Option (List Stop × Nat) × Nat × Nat × Nat × Nat => s.1 ≤ g.length ∧ s.2.1.length ≤ s.1 - 1 ∧ match s.2.2.1 with | none => s.1 = 0 ∧ s.2.1 = [] | some (c, _) => 1 ≤ s.1 ∧ c.length ≤ s.1 ∧ toursG cuts s.1 s.2.1 c (g.drop s.1) = toursOf cuts g)
    (fun (i, dn, cur, v0, v1, v2, v3) => [(2, L cuts), (6, .ptr (nx + 1) v1 0), (7, .ptr (nx + 2) v2 0), (8, L g), (9, I i)])
    (fun (i, dn, cur, v0, v1, v2, v3) => match cur with
      | none => [.cells v0 25 (instL x), .cells v1 35 [.sc (.slice none 0 0)], .cells v2 35 [.sl (nx + 3) v3 1 0 0], .cells v3 66 []]
      | some (c, v4) => [.cells v0 25 (instL x), .cells v1 35 [.sc (.slice none 0 0)], .cells v2 35 [.sl (nx + 3) v3 1 0 (dn.length + 1)], .cells v3 66 (dn.flatMap Enc.enc ++ [.sl (nx + 4) v4 2 0 c.length]), .cells v4 43 (c.flatMap Enc.enc)])
    (fun s => g.length - s.1) (0, [], none, v0, v1, v2, v3) [] (by simp) (by simp) (by simp) ?_)
  rintro ⟨i, dn, cur, v0, v1, v2, v3⟩ ⟨hi, hdn, hcur⟩
  simp only at hi hdn hcur ⊢
  by_cases hlt : i < g.length
  · obtain ⟨s, tl, a1, a2, a3, e1, e0⟩ := el 2 rfl g i hlt
    have w1 := wrN i (by omega)
    have hlt' : (i : Int) < g.length := by omega
    repeat refine pw_seq ?_
    refine pw_N [] (by rfl) (by rfl) fun K Gc Gh hK hGc hGh X hX0 hX => ?_
    simp -implicitDefEqProofs [hX0, hX, hlt]
    try clear hX0 hX X
    intros
    refine hK _ _ _ ?_
    clear hK hGc hGh
    clear K Gc Gh
    repeat refine pw_seq ?_
    refine pw_ct rfl ?_
    refine pw_skip (pw_seq (pw_block ?_))
    refine pw_seq (pw_cutK (nx := nx) (σ := Day × List Stop × Nat × Nat × Nat × Nat × Nat) (fun s' => s'.1.length ≤ i ∧ s'.2.1.length ≤ i ∧ toursG cuts (i + 1) s'.1 (s'.2.1 ++ [s]) (g.drop (i + 1)) = toursOf cuts g)
      (fun (dn, c, v0, v1, v2, v3, v4) => [(2, L cuts), (6, .ptr (nx + 1) v1 0), (7, .ptr (nx + 2) v2 0), (8, L g), (9, I i)]) (fun _ => S)
      (fun (dn, c, v0, v1, v2, v3, v4) => [.cells v0 25 (instL x), .cells v1 35 [.sc (.slice none 0 0)], .cells v2 35 [.sl (nx + 3) v3 1 0 (dn.length + 1)], .cells v3 66 (dn.flatMap Enc.enc ++ [.sl (nx + 4) v4 2 0 c.length]), .cells v4 43 (c.flatMap Enc.enc)]) ?_ ?_)
    · intro key
      cases cur with
      | none =>
        obtain ⟨rfl, rfl⟩ := hcur
        have hfin0 : toursG cuts 1 [] [s] (g.drop 1) = toursOf cuts g := by cases g with | nil => simp at hlt | cons a g => simp at a1; subst a1; rfl
        simp only
        repeat refine pw_seq ?_
        refine pw_N [(2, 22), (7, 27)] (by rfl) (by rfl) fun K Gc Gh hK hGc hGh X hX0 hX => ?_
        simp -implicitDefEqProofs [hX0, hX, undef]
        try clear hX0 hX X
        intros
        refine hK _ _ _ ?_
        clear hK hGc hGh
        clear K Gc Gh
        repeat refine pw_seq ?_
        refine pw_ct rfl ?_
        repeat refine pw_seq ?_
        refine pw_N [] (by rfl) (by rfl) fun K Gc Gh hK hGc hGh X hX0 hX => ?_
        simp -implicitDefEqProofs [hX0, hX]
        try clear hX0 hX X
        intros
        refine hK _ _ _ ?_
        clear hK hGc hGh
        clear K Gc Gh
        refine pw_nilObX 3 0 43 2 rfl rfl fun v4 => ?_
        exact key ([], [], v0, v1, v2, v3 + 1, v4) [] _ _ _ ⟨by simp, by simp, by simpa [toursOf, toursG] using hfin0⟩ (by simp) rfl (by simp)
      | some cv =>
        obtain ⟨c, v4⟩ := cv
        obtain ⟨h1, hcl, hfin⟩ := hcur
        simp only
        rw [a2] at hfin
        have hi0 : ¬ (i : Int) = 0 := by omega
        have hi0' : ¬ i = 0 := by omega
        by_cases hci : i < cuts.length
        · obtain ⟨b, tlb, b1, b2, b3, eb⟩ := el1 rfl cuts i hci
          have hb : cuts.getD i false = b := by rw [List.getD_eq_getElem?_getD, b1]; rfl
          simp only [toursG, hb] at hfin
          repeat refine pw_seq ?_
          refine pw_N [(2, 22), (7, 27)] (by rfl) (by rfl) fun K Gc Gh hK hGc hGh X hX0 hX => ?_
          simp -implicitDefEqProofs [hX0, hX, hi0', hci, eb]
          try clear hX0 hX X
          intros
          refine hK _ _ _ ?_
          clear hK hGc hGh
          clear K Gc Gh
          cases b with
          | true =>
            refine pw_ct (by simp) ?_
            refine pw_frz 4 rfl ?_
            refine pw_drop [.cells v0 25 (instL x), .cells v1 35 [.sc (.slice none 0 0)], .cells v2 35 [.sl (nx + 3) v3 1 0 (dn ++ [c]).length], .cells v3 66 ((dn ++ [c]).flatMap Enc.enc)] [.dead] (by simp) ?_
            generalize hdn' : dn ++ [c] = dn' at *
            have hdl : dn'.length ≤ i := by rw [← hdn']; simp; omega
            repeat refine pw_seq ?_
            refine pw_N [] (by rfl) (by rfl) fun K Gc Gh hK hGc hGh X hX0 hX => ?_
            simp -implicitDefEqProofs [hX0, hX]
            try clear hX0 hX X
            refine ⟨by omega, ?_⟩
            intros
            refine hK _ _ _ ?_
            clear hK hGc hGh
            clear K Gc Gh
            refine pw_nilObX 3 dn'.length 43 2 rfl (by rw [List.getElem?_append_right (by simp)]; simp) fun v5 => ?_
            exact key (dn', [], v0, v1, v2, v3 + 1, v5) [] _ _ _ ⟨hdl, by simp, hfin⟩ (by simp) rfl (by simp)
          | false =>
            refine pw_cf (by simp) ?_
            refine pw_skip ?_
            exact key (dn, c, v0, v1, v2, v3, v4) [] _ _ _ ⟨by simp only; omega, hcl, hfin⟩ (by simp) rfl (by simp)
        · have hb : cuts.getD i false = false := by rw [List.getD_eq_getElem?_getD, List.getElem?_eq_none (by omega)]; rfl
          simp only [toursG, hb] at hfin
          repeat refine pw_seq ?_
          refine pw_N [(2, 22), (7, 27)] (by rfl) (by rfl) fun K Gc Gh hK hGc hGh X hX0 hX => ?_
          simp -implicitDefEqProofs [hX0, hX, hi0', hci, undef]
          try clear hX0 hX X
          intros
          refine hK _ _ _ ?_
          clear hK hGc hGh
          clear K Gc Gh
          refine pw_cf (by simp) ?_
          refine pw_skip ?_
          exact key (dn, c, v0, v1, v2, v3, v4) [] _ _ _ ⟨by simp only; omega, hcl, hfin⟩ (by simp) rfl (by simp)
    · rintro ⟨dn, c, v0, v1, v2, v3, v4⟩ ⟨hd1, hc1, hfin⟩
      simp only at hd1 hc1 hfin ⊢
      have w2 : IntKind.i64.wrap ((dn.length : Int)) = dn.length := wr _ (by omega) (by omega)
      repeat refine pw_seq ?_
      refine pw_N [] (by rfl) (by rfl) fun K Gc Gh hK hGc hGh X hX0 hX => ?_
      simp -implicitDefEqProofs [hX0, hX, w2]
      try clear hX0 hX X
      intros
      refine hK _ _ _ ?_
      clear hK hGc hGh
      clear K Gc Gh
      have f1 := flat_last (α := Tour) rfl dn (.sl (nx + 4) v4 2 0 c.length)
      have f2 := splice_last (α := Tour) rfl dn (.sl (nx + 4) v4 2 0 c.length) (.sl (nx + 4) (v4 + 1) 2 0 (c.length + 1))
      have g1 : (dn.length : Int) < dn.length + 1 := by omega
      repeat refine pw_seq ?_
      refine pw_Y (some [nx + 2]) (Row.pures [0, 1, 2, 3, 4, 5, 6, 7, 9, 10, 11, 12, 13] (.alt 8 (.alt 14 (Row.pures [15, 16] (.alt 17 (.done) .stop)) .stop) .stop)) mixed (by rfl) (by rfl) (by rfl) fun K Gp Gc Gh hK hGp hGc hGh X hX0 hX1 hX2 hX => ?_
      simp -implicitDefEqProofs [hX0, hX1, hX2, hX, f1, f2, e0, hlt, g1]
      try clear hX0 hX1 hX2 hX X
      refine ⟨by omega, ?_⟩
      refine hK _ _ _ ?_
      clear hK hGp hGc hGh
      clear K Gp Gc Gh
      repeat refine pw_seq ?_
      refine pw_N [] (by rfl) (by rfl) fun K Gc Gh hK hGc hGh X hX0 hX => ?_
      simp -implicitDefEqProofs [hX0, hX]
      try clear hX0 hX X
      intros
      refine hK _ _ _ ?_
      clear hK hGc hGh
      clear K Gc Gh
      exact again_mk (i + 1, dn, some (c ++ [s], v4 + 1), v0, v1, v2, v3) [] ⟨by simp only; omega, by simp only; omega, by simp only; omega, by simp; omega, hfin⟩ (by simp; omega) (by simp [w1]) rfl (by simp)
  · have hil : i = g.length := by omega
    subst hil
    repeat refine pw_seq ?_
    refine pw_N [] (by rfl) (by rfl) fun K Gc Gh hK hGc hGh X hX0 hX => ?_
    simp -implicitDefEqProofs [hX0, hX]
    try clear hX0 hX X
    intros
    refine hK _ _ _ ?_
    clear hK hGc hGh
    clear K Gc Gh
    repeat refine pw_seq ?_
    refine pw_cf rfl ?_
    refine pw_exit ?_
    cases cur with
    | none =>
      obtain ⟨h0, rfl⟩ := hcur
      have hg0 : g = [] := List.eq_nil_of_length_eq_zero h0
      simp only
      repeat refine pw_seq ?_
      refine pw_N [] (by rfl) (by rfl) fun K Gc Gh hK hGc hGh X hX0 hX => ?_
      simp -implicitDefEqProofs [hX0, hX]
      try clear hX0 hX X
      intros
      refine hK _ _ _ ?_
      clear hK hGc hGh
      clear K Gc Gh
      refine pw_frz 3 rfl ?_
      repeat refine pw_seq ?_
      exact pw_ret (ret_pure hd (by simp; rfl) (by simp [hg0, toursOf]))
    | some cv =>
      obtain ⟨c, v4⟩ := cv
      obtain ⟨h1, hcl, hfin⟩ := hcur
      simp only
      rw [List.drop_length, toursG] at hfin
      repeat refine pw_seq ?_
      refine pw_N [] (by rfl) (by rfl) fun K Gc Gh hK hGc hGh X hX0 hX => ?_
      simp -implicitDefEqProofs [hX0, hX]
      try clear hX0 hX X
      intros
      refine hK _ _ _ ?_
      clear hK hGc hGh
      clear K Gc Gh
      refine pw_frz 4 rfl ?_
      refine pw_drop [.cells v0 25 (instL x), .cells v1 35 [.sl (nx + 3) v3 1 0 (dn ++ [c]).length], .cells v2 35 [.sl (nx + 3) v3 1 0 (dn ++ [c]).length], .cells v3 66 ((dn ++ [c]).flatMap Enc.enc)] [.dead] (by simp) ?_
      rw [hfin]
      refine pw_frz 3 rfl ?_
      repeat refine pw_seq ?_
      exact pw_ret (ret_pure hd (by simp; rfl) rfl)

end Go.Proofs.YtafcjklojnhbnaaGreat.Pv
