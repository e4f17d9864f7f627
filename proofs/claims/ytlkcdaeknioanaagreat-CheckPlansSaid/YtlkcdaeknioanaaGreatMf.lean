/- Plans cut, with one day's tours and one tour's stops as objects of their own. Printed by cutgen.py. -/
import Derived.Test.YtlkcdaeknioanaaGreatLw
namespace Go.Proofs.YtlkcdaeknioanaaGreat.Pv
open Go

/-- The cells of a row of rows, of which one is told by another value. -/
def mixL {α : Type} [Enc α] (l : List (List α)) (D : Nat) (x : PV) : List PV := (l.flatMap Enc.enc).set D x
section
variable {α : Type} [Enc α]
@[simp] theorem mix_nil (D : Nat) (x : PV) : mixL ([] : List (List α)) D x = [] := by simp [mixL]
@[simp] theorem mix_len (l : List (List α)) (D : Nat) (x : PV) : (mixL l D x).length = l.length := by rw [mixL, List.length_set]; exact flen_list l
@[simp] theorem mix_take (l : List (List α)) (D : Nat) (x : PV) : (mixL l D x).take l.length = mixL l D x := List.take_of_length_le (by simp)
theorem mix_snoc_ne {l : List (List α)} {D : Nat} (h : l.length ≠ D) (x : PV) (y : List α) : mixL l D x ++ [L y] = mixL (l ++ [y]) D x := by
  unfold mixL
  rw [List.flatMap_append]
  by_cases hD : D < l.length
  · rw [List.set_append_left _ _ (by rw [flen_list]; exact hD)]; simp
  · rw [List.set_append_right _ _ (by rw [flen_list]; omega), List.set_eq_of_length_le (by rw [flen_list]; omega), List.set_eq_of_length_le (by rw [flen_list]; simp; omega)]; simp
theorem mix_snoc_eq {l : List (List α)} {D : Nat} (h : l.length = D) (x' x : PV) (y : List α) : mixL l D x' ++ [x] = mixL (l ++ [y]) D x := by
  unfold mixL
  rw [List.flatMap_append, List.set_eq_of_length_le (by rw [flen_list]; omega), List.set_append_right _ _ (by rw [flen_list]; omega), flen_list, h, Nat.sub_self]
  simp
theorem mix_frz (id v : Nat) (cs : List PV) (l : List (List α)) (D : Nat) (x : PV) : (mixL l D x).map (frzP id v cs) = mixL l D (frzP id v cs x) := by
  rw [mixL, List.map_set, frz_flat]; rfl
theorem mix_drop_ne {l : List (List α)} {D k : Nat} {y : List α} {tl : List PV} (h : k ≠ D) (hk : (l.flatMap Enc.enc).drop k = Enc.enc y ++ tl) (x : PV) : ∃ tl', (mixL l D x).drop k = Enc.enc y ++ tl' := by
  unfold mixL
  rw [List.drop_set]
  split
  · exact ⟨tl, hk⟩
  · rw [hk, enc_list, List.set_append_right _ _ (by simp; omega)]
    exact ⟨_, rfl⟩
theorem mix_drop_eq {l : List (List α)} {D : Nat} (h : D < l.length) (x : PV) : ∃ tl', (mixL l D x).drop D = x :: tl' := by
  unfold mixL
  rw [List.drop_set, if_neg (by omega), Nat.sub_self]
  cases e : (l.flatMap Enc.enc).drop D with
  | nil => have := congrArg List.length e; rw [List.length_drop, flen_list] at this; simp at this; omega
  | cons a b => exact ⟨b, rfl⟩
theorem mix_set {l : List (List α)} {D : Nat} (x y : PV) : (mixL l D x).set D y = mixL l D y := by simp [mixL]
theorem mix_splice {l : List (List α)} {D : Nat} (h : D < l.length) (x y : PV) : splice (mixL l D x) D [y] = mixL l D y := by
  rw [← mix_set x y, splice, List.set_eq_take_append_cons_drop, if_pos (by simpa using h)]
  simp
theorem mix_enc (l : List (List α)) (D : Nat) (y : List α) : mixL l D (L y) = (l.set D y).flatMap Enc.enc := by
  have e : ∀ l : List (List α), l.flatMap Enc.enc = l.map L := fun l => by induction l <;> simp_all
  rw [mixL, e, e, List.map_set]
end

section
variable {P : Program} {r : Rd} {n nx N : Nat} {Q : Exit → (Nat → PV) → Store → Prop} {F : Nat → PV} {S : Store} {obs : List Ob} {c : Code}
theorem pw_deads (k : Nat) (h : PW P r n N c Q F (ext S nx (obs ++ List.replicate k .dead))) : PW P r n N c Q F (ext S nx obs) := by rw [ext_deads k]; exact h
theorem pw_undead (k : Nat) (h : PW P r n N c Q F (ext S nx obs)) : PW P r n N c Q F (ext S nx (obs ++ List.replicate k .dead)) := by rw [← ext_deads k]; exact h
theorem keep_ext {l : List Ob} (h : ∀ i, l.getD i .dead = obs.getD i .dead ∨ l.getD i .dead = .dead) (o : Nat) : ext S nx l o = ext S nx obs o ∨ ext S nx l o = .dead := by
  simp only [ext]
  split
  · exact .inl rfl
  · exact h _
end

set_option maxRecDepth 20000 in
theorem cut_own2 (p : Plan) (D T : Nat) (d0 : Day) (t0 : Tour) (hD : (cutP p)[D]? = some d0) (hT : d0[T]? = some t0) (S : Store) (nx : Nat) (hd : DeadFrom nx S) :
    Spec Tryz.prog 9 [.agg [L p]] S (fun q S' => ∃ v3 v5 v6, q = .agg [.sl (nx + 3) v3 1 0 (cutP p).length] ∧ S' = ext S nx [.dead, .dead, .dead, .cells v3 45 (mixL (cutP p) D (.sl (nx + 5) v5 1 0 d0.length)), .dead, .cells v5 59 (mixL d0 T (.sl (nx + 6) v6 2 0 t0.length)), .cells v6 61 (t0.flatMap Enc.enc)]) := by
  have hDl : D < (cutP p).length := (List.getElem?_eq_some_iff.1 hD).1
  have hTl : T < d0.length := (List.getElem?_eq_some_iff.1 hT).1
  refine spec_at hd Tryz.func9 (by rfl) rfl Tryz.ntmps9 (congrArg Array.toList Tryz.results9) (by simp) ?_
  repeat refine pw_seq ?_
  refine pw_N [] (by rfl) (by rfl) fun K Gc Gh hK hGc hGh X hX0 hX => ?_
  simp -implicitDefEqProofs [hX0, hX]
  try clear hX0 hX X
  intro v0 v1
  refine hK _ _ _ ?_
  clear hK hGc hGh
  clear K Gc Gh
  repeat refine pw_seq ?_
  refine pw_N [] (by rfl) (by rfl) fun K Gc Gh hK hGc hGh X hX0 hX => ?_
  simp -implicitDefEqProofs [hX0, hX]
  try clear hX0 hX X
  intro v2
  refine hK _ _ _ ?_
  clear hK hGc hGh
  clear K Gc Gh
  refine pw_seq (pw_nilObX 2 0 45 1 rfl rfl fun v3 => ?_)
  repeat refine pw_seq ?_
  refine pw_N [] (by rfl) (by rfl) fun K Gc Gh hK hGc hGh X hX0 hX => ?_
  simp -implicitDefEqProofs [hX0, hX]
  try clear hX0 hX X
  intros
  refine hK _ _ _ ?_
  clear hK hGc hGh
  clear K Gc Gh
  repeat refine pw_seq ?_
  refine pw_deads 3 ?_
  refine pw_joinK (nx := nx) (σ := Nat × Nat × Nat) (fun _ => True) (fun (v3, w5, w6) => [(2, .ptr (nx + 1) v1 0), (3, .ptr (nx + 2) v2 0)]) (fun _ => S) (fun (v3, w5, w6) => [.cells v0 30 [L p], .cells v1 30 [.sc (.slice none 0 0)], .cells v2 30 [.sl (nx + 3) v3 1 0 (cutP p).length], .cells v3 45 (mixL (cutP p) D (.sl (nx + 5) w5 1 0 d0.length)), .dead, .cells w5 59 (mixL d0 T (.sl (nx + 6) w6 2 0 t0.length)), .cells w6 61 (t0.flatMap Enc.enc)]) ?_ ?_
  · refine pw_block (pw_loopL (fun s : Nat × Plan × Nat × Nat × Nat => s.1 ≤ 8 ∧ s.1 ≤ p.length ∧ s.2.1 = (p.take s.1).map cutD) (fun (a, out, v3, w5, w6) => [(1, .ptr nx v0 0), (2, .ptr (nx + 1) v1 0), (3, .ptr (nx + 2) v2 0), (4, I a)]) (fun (a, out, v3, w5, w6) => [.cells v0 30 [L p], .cells v1 30 [.sc (.slice none 0 0)], .cells v2 30 [.sl (nx + 3) v3 1 0 out.length], .cells v3 45 (mixL out D (.sl (nx + 5) w5 1 0 d0.length)), .dead, if D < a then .cells w5 59 (mixL d0 T (.sl (nx + 6) w6 2 0 t0.length)) else .dead, if D < a then .cells w6 61 (t0.flatMap Enc.enc) else .dead]) (fun s => 8 - s.1) (0, [], v3, 0, 0) [] (by simp) (by simp) (by simp) ?_)
    rintro ⟨a, out, v3, w5, w6⟩ ⟨ha8, hap, ho⟩
    simp only at ha8 hap ho ⊢
    have hol : out.length = a := by rw [ho]; simp; omega
    have fin : (a = 8 ∨ a = p.length) → out = cutP p ∧ D < a := by
      intro h
      have e : out = cutP p := by
        rcases h with h | h
        · rw [ho, h]; rfl
        · rw [ho, cutP, List.take_of_length_le (by omega), List.take_of_length_le (by omega)]
      exact ⟨e, by rw [← hol, e]; exact hDl⟩
    by_cases hq1 : a < p.length
    case neg =>
      obtain ⟨hk, hDa⟩ := fin (.inr (by omega))
      rw [if_pos hDa, if_pos hDa]
      repeat refine pw_seq ?_
      refine pw_N [(5, 14)] (by rfl) (by rfl) fun K Gc Gh hK hGc hGh X hX0 hX => ?_
      simp -implicitDefEqProofs [hX0, hX, hq1, undef]
      try clear hX0 hX X
      intros
      refine hK _ _ _ ?_
      clear hK hGc hGh
      clear K Gc Gh
      repeat refine pw_seq ?_
      refine pw_cf rfl ?_
      exact pw_exit (at_mk (v3, w5, w6) [] trivial (by simp) rfl (by simp only [← hk]; simp))
    by_cases hq2 : (a : Int) < 8
    case neg =>
      obtain ⟨hk, hDa⟩ := fin (.inl (by omega))
      rw [if_pos hDa, if_pos hDa]
      repeat refine pw_seq ?_
      refine pw_N [(5, 14)] (by rfl) (by rfl) fun K Gc Gh hK hGc hGh X hX0 hX => ?_
      simp -implicitDefEqProofs [hX0, hX, hq1, hq2]
      try clear hX0 hX X
      intros
      refine hK _ _ _ ?_
      clear hK hGc hGh
      clear K Gc Gh
      repeat refine pw_seq ?_
      refine pw_cf rfl ?_
      exact pw_exit (at_mk (v3, w5, w6) [] trivial (by simp) rfl (by simp only [← hk]; simp))
    obtain ⟨d, tl, a1, a2, a3, e0⟩ := el1 rfl p a hq1
    by_cases haD : a = D
    case neg =>
      have hoo5 : (if D < a + 1 then Ob.cells w5 59 (mixL d0 T (.sl (nx + 6) w6 2 0 t0.length)) else .dead) = (if D < a then .cells w5 59 (mixL d0 T (.sl (nx + 6) w6 2 0 t0.length)) else .dead) := by
        by_cases h : D < a
        · rw [if_pos h, if_pos (by omega)]
        · rw [if_neg h, if_neg (by omega)]
      have hoo6 : (if D < a + 1 then Ob.cells w6 61 (t0.flatMap Enc.enc) else .dead) = (if D < a then .cells w6 61 (t0.flatMap Enc.enc) else .dead) := by
        by_cases h : D < a
        · rw [if_pos h, if_pos (by omega)]
        · rw [if_neg h, if_neg (by omega)]
      have hO5 : ∀ (k v : Nat) cs, 7 ≤ k → frzO (nx + k) v cs (if D < a then .cells w5 59 (mixL d0 T (.sl (nx + 6) w6 2 0 t0.length)) else .dead) = (if D < a then .cells w5 59 (mixL d0 T (.sl (nx + 6) w6 2 0 t0.length)) else .dead) := by
        intro k v cs hk; split
        · simp only [frzO, mix_frz, frzP]; rw [if_neg (by omega)]
        · rfl
      have hO6 : ∀ (k v : Nat) cs, 7 ≤ k → frzO (nx + k) v cs (if D < a then .cells w6 61 (t0.flatMap Enc.enc) else .dead) = (if D < a then .cells w6 61 (t0.flatMap Enc.enc) else .dead) := by
        intro k v cs hk; split
        · simp only [frzO, frz_flat]
        · rfl
      generalize (if D < a then Ob.cells w5 59 (mixL d0 T (.sl (nx + 6) w6 2 0 t0.length)) else .dead) = O5 at hoo5 hO5 ⊢
      generalize (if D < a then Ob.cells w6 61 (t0.flatMap Enc.enc) else .dead) = O6 at hoo6 hO6 ⊢
      repeat refine pw_seq ?_
      refine pw_N [(5, 14)] (by rfl) (by rfl) fun K Gc Gh hK hGc hGh X hX0 hX => ?_
      simp -implicitDefEqProofs [hX0, hX, hq1, hq2]
      try clear hX0 hX X
      intros
      refine hK _ _ _ ?_
      clear hK hGc hGh
      clear K Gc Gh
      repeat refine pw_seq ?_
      refine pw_ct rfl ?_
      refine pw_skip (pw_seq (pw_block ?_))
      repeat refine pw_seq ?_
      refine pw_N [] (by rfl) (by rfl) fun K Gc Gh hK hGc hGh X hX0 hX => ?_
      simp -implicitDefEqProofs [hX0, hX]
      try clear hX0 hX X
      intro v4
      refine hK _ _ _ ?_
      clear hK hGc hGh
      clear K Gc Gh
      refine pw_seq (pw_nilObX 7 0 59 1 rfl rfl fun v5 => ?_)
      repeat refine pw_seq ?_
      refine pw_N [] (by rfl) (by rfl) fun K Gc Gh hK hGc hGh X hX0 hX => ?_
      simp -implicitDefEqProofs [hX0, hX]
      try clear hX0 hX X
      intros
      refine hK _ _ _ ?_
      clear hK hGc hGh
      clear K Gc Gh
      repeat refine pw_seq ?_
      refine pw_joinK (nx := nx) (σ := Nat × Nat) (fun _ => True) (fun (v3, v5) => [(1, .ptr nx v0 0), (2, .ptr (nx + 1) v1 0), (3, .ptr (nx + 2) v2 0), (4, I a), (5, .ptr (nx + 7) v4 0)]) (fun _ => S) (fun (v3, v5) => [.cells v0 30 [L p], .cells v1 30 [.sc (.slice none 0 0)], .cells v2 30 [.sl (nx + 3) v3 1 0 out.length], .cells v3 45 (mixL out D (.sl (nx + 5) w5 1 0 d0.length)), .dead, O5, O6, .cells v4 45 [.sl (nx + 8) v5 1 0 (cutD d).length], .cells v5 59 ((cutD d).flatMap Enc.enc)]) ?_ ?_
      · refine pw_block (pw_loopL (fun s : Nat × Day × Nat => s.1 ≤ 6 ∧ s.1 ≤ d.length ∧ s.2.1 = (d.take s.1).map fun t => t.take 8) (fun (b, od, v5) => [(1, .ptr nx v0 0), (2, .ptr (nx + 1) v1 0), (3, .ptr (nx + 2) v2 0), (4, I a), (5, .ptr (nx + 7) v4 0), (6, I b)]) (fun (b, od, v5) => [.cells v0 30 [L p], .cells v1 30 [.sc (.slice none 0 0)], .cells v2 30 [.sl (nx + 3) v3 1 0 out.length], .cells v3 45 (mixL out D (.sl (nx + 5) w5 1 0 d0.length)), .dead, O5, O6, .cells v4 45 [.sl (nx + 8) v5 1 0 od.length], .cells v5 59 (od.flatMap Enc.enc)]) (fun s => 6 - s.1) (0, [], v5) [] (by simp) (by simp) (by simp) ?_)
        rintro ⟨b, od, v5⟩ ⟨hb6, hbd, hod⟩
        simp only at hb6 hbd hod ⊢
        have hodl : od.length = b := by rw [hod]; simp; omega
        have fin2 : (b = 6 ∨ b = d.length) → od = cutD d := by
          rintro (h | h)
          · rw [hod, h]; rfl
          · rw [hod, cutD, List.take_of_length_le (by omega), List.take_of_length_le (by omega)]
        by_cases hq3 : b < d.length
        case neg =>
          repeat refine pw_seq ?_
          refine pw_N [(9, 29)] (by rfl) (by rfl) fun K Gc Gh hK hGc hGh X hX0 hX => ?_
          simp -implicitDefEqProofs [hX0, hX, hq1, e0, hq3, undef]
          try clear hX0 hX X
          intros
          refine hK _ _ _ ?_
          clear hK hGc hGh
          clear K Gc Gh
          repeat refine pw_seq ?_
          refine pw_cf rfl ?_
          have hk := fin2 (.inr (by omega))
          exact pw_exit (at_mk (v3, v5) [] trivial (by simp) rfl (by simp only [← hk]; rfl))
        by_cases hq4 : (b : Int) < 6
        case neg =>
          repeat refine pw_seq ?_
          refine pw_N [(9, 29)] (by rfl) (by rfl) fun K Gc Gh hK hGc hGh X hX0 hX => ?_
          simp -implicitDefEqProofs [hX0, hX, hq1, e0, hq3, hq4]
          try clear hX0 hX X
          intros
          refine hK _ _ _ ?_
          clear hK hGc hGh
          clear K Gc Gh
          repeat refine pw_seq ?_
          refine pw_cf rfl ?_
          have hk := fin2 (.inl (by omega))
          exact pw_exit (at_mk (v3, v5) [] trivial (by simp) rfl (by simp only [← hk]; rfl))
        obtain ⟨t, tl2, b1, b2, b3, e2⟩ := el1 rfl d b hq3
        repeat refine pw_seq ?_
        refine pw_N [(9, 29)] (by rfl) (by rfl) fun K Gc Gh hK hGc hGh X hX0 hX => ?_
        simp -implicitDefEqProofs [hX0, hX, hq1, e0, hq3, hq4]
        try clear hX0 hX X
        intros
        refine hK _ _ _ ?_
        clear hK hGc hGh
        clear K Gc Gh
        repeat refine pw_seq ?_
        refine pw_ct rfl ?_
        refine pw_skip (pw_seq (pw_block ?_))
        repeat refine pw_seq ?_
        refine pw_N [] (by rfl) (by rfl) fun K Gc Gh hK hGc hGh X hX0 hX => ?_
        simp -implicitDefEqProofs [hX0, hX]
        try clear hX0 hX X
        intros
        refine hK _ _ _ ?_
        clear hK hGc hGh
        clear K Gc Gh
        refine pw_seq (pw_nilX 7 61 2 rfl fun v6 => ?_)
        repeat refine pw_seq ?_
        refine pw_N [] (by rfl) (by rfl) fun K Gc Gh hK hGc hGh X hX0 hX => ?_
        simp -implicitDefEqProofs [hX0, hX]
        try clear hX0 hX X
        intros
        refine hK _ _ _ ?_
        clear hK hGc hGh
        clear K Gc Gh
        repeat refine pw_seq ?_
        refine pw_joinK (nx := nx) (σ := Nat) (fun _ => True) (fun v6 => [(1, .ptr nx v0 0), (2, .ptr (nx + 1) v1 0), (3, .ptr (nx + 2) v2 0), (4, I a), (5, .ptr (nx + 7) v4 0), (6, I b), (7, .sl (nx + 9) v6 2 0 (t.take 8).length)]) (fun _ => S) (fun v6 => [.cells v0 30 [L p], .cells v1 30 [.sc (.slice none 0 0)], .cells v2 30 [.sl (nx + 3) v3 1 0 out.length], .cells v3 45 (mixL out D (.sl (nx + 5) w5 1 0 d0.length)), .dead, O5, O6, .cells v4 45 [.sl (nx + 8) v5 1 0 od.length], .cells v5 59 (od.flatMap Enc.enc), .cells v6 61 ((t.take 8).flatMap Enc.enc)]) ?_ ?_
        · refine pw_block (pw_loopL (fun s : Nat × Nat => s.1 ≤ 8 ∧ s.1 ≤ t.length) (fun (j, v6) => [(1, .ptr nx v0 0), (2, .ptr (nx + 1) v1 0), (3, .ptr (nx + 2) v2 0), (4, I a), (5, .ptr (nx + 7) v4 0), (6, I b), (7, .sl (nx + 9) v6 2 0 (t.take j).length), (8, I j)]) (fun (j, v6) => [.cells v0 30 [L p], .cells v1 30 [.sc (.slice none 0 0)], .cells v2 30 [.sl (nx + 3) v3 1 0 out.length], .cells v3 45 (mixL out D (.sl (nx + 5) w5 1 0 d0.length)), .dead, O5, O6, .cells v4 45 [.sl (nx + 8) v5 1 0 od.length], .cells v5 59 (od.flatMap Enc.enc), .cells v6 61 ((t.take j).flatMap Enc.enc)]) (fun s => 8 - s.1) (0, v6) [] (by simp) (by simp) (by simp) ?_)
          rintro ⟨j, v6⟩ ⟨hj8, hjt⟩
          simp only at hj8 hjt ⊢
          have fin3 : (j = 8 ∨ j = t.length) → t.take j = t.take 8 := by
            rintro (h | h)
            · rw [h]
            · rw [h, List.take_length, List.take_of_length_le (by omega)]
          by_cases hq5 : j < t.length
          case neg =>
            have hk := fin3 (.inr (by omega))
            rw [hk]
            repeat refine pw_seq ?_
            refine pw_N [(13, 48)] (by rfl) (by rfl) fun K Gc Gh hK hGc hGh X hX0 hX => ?_
            simp -implicitDefEqProofs [hX0, hX, hq1, e0, hq3, e2, hq5, undef]
            try clear hX0 hX X
            intros
            refine hK _ _ _ ?_
            clear hK hGc hGh
            clear K Gc Gh
            repeat refine pw_seq ?_
            refine pw_cf rfl ?_
            exact pw_exit (at_mk v6 [] trivial (by simp) rfl (by simp))
          by_cases hq6 : (j : Int) < 8
          case neg =>
            have hk := fin3 (.inl (by omega))
            rw [hk]
            repeat refine pw_seq ?_
            refine pw_N [(13, 48)] (by rfl) (by rfl) fun K Gc Gh hK hGc hGh X hX0 hX => ?_
            simp -implicitDefEqProofs [hX0, hX, hq1, e0, hq3, e2, hq5, hq6]
            try clear hX0 hX X
            intros
            refine hK _ _ _ ?_
            clear hK hGc hGh
            clear K Gc Gh
            repeat refine pw_seq ?_
            refine pw_cf rfl ?_
            exact pw_exit (at_mk v6 [] trivial (by simp) rfl (by simp))
          obtain ⟨s, tl3, c1, c2, c3, _, e3⟩ := el 2 rfl t j hq5
          have hjl : (t.take j).length = j := by simp; omega
          have hjl2 : (t.take (j + 1)).length = j + 1 := by simp; omega
          generalize htj : t.take j = tj at hjl c3
          repeat refine pw_seq ?_
          refine pw_N [(13, 48)] (by rfl) (by rfl) fun K Gc Gh hK hGc hGh X hX0 hX => ?_
          simp -implicitDefEqProofs [hX0, hX, hq1, e0, hq3, e2, hq5, hq6]
          try clear hX0 hX X
          intros
          refine hK _ _ _ ?_
          clear hK hGc hGh
          clear K Gc Gh
          repeat refine pw_seq ?_
          refine pw_ct rfl ?_
          refine pw_skip (pw_seq (pw_block ?_))
          repeat refine pw_seq ?_
          refine pw_N [] (by rfl) (by rfl) fun K Gc Gh hK hGc hGh X hX0 hX => ?_
          simp -implicitDefEqProofs [hX0, hX, hq1, e0, hq3, e2, hq5, e3]
          try clear hX0 hX X
          refine ⟨by omega, ?_⟩
          intros
          refine hK _ _ _ ?_
          clear hK hGc hGh
          clear K Gc Gh
          repeat refine pw_seq ?_
          refine pw_N [] (by rfl) (by rfl) fun K Gc Gh hK hGc hGh X hX0 hX => ?_
          simp -implicitDefEqProofs [hX0, hX]
          try clear hX0 hX X
          intros
          refine hK _ _ _ ?_
          clear hK hGc hGh
          clear K Gc Gh
          exact again_mk (j + 1, v6 + 1) [] ⟨by omega, by omega⟩ (by simp; omega) (by simp [wrN j (by omega), c3]) rfl (by simp [c3])
        · intro v6 _
          have hfr : (t.take 8).length * 2 = ((t.take 8).flatMap Enc.enc).length := by rw [flen_stop]
          generalize ht8 : t.take 8 = t8 at hfr ⊢
          refine pw_frz 9 rfl ?_
          simp only [List.map_cons, hO5 9 _ _ (by omega), hO6 9 _ _ (by omega)]
          repeat refine pw_seq ?_
          refine pw_N [] (by rfl) (by rfl) fun K Gc Gh hK hGc hGh X hX0 hX => ?_
          simp -implicitDefEqProofs [hX0, hX, mix_frz]
          try clear hX0 hX X
          refine ⟨by omega, ?_⟩
          intros
          refine hK _ _ _ ?_
          clear hK hGc hGh
          clear K Gc Gh
          repeat refine pw_seq ?_
          refine pw_N [] (by rfl) (by rfl) fun K Gc Gh hK hGc hGh X hX0 hX => ?_
          simp -implicitDefEqProofs [hX0, hX]
          try clear hX0 hX X
          intros
          refine hK _ _ _ ?_
          clear hK hGc hGh
          clear K Gc Gh
          exact again_mk (b + 1, od ++ [t8], v5 + 1) [.dead] ⟨by omega, by omega, by rw [b3, hod, ← ht8]; simp⟩ (by simp; omega) (by simp [wrN b (by omega)]) rfl (by simp)

      · rintro ⟨v3, v5⟩ -
        simp only
        have hc6 : (cutD d).length ≤ 6 := by simp [cutD]; omega
        have hsn : mixL (out ++ [cutD d]) D (.sl (nx + 5) w5 1 0 d0.length) = mixL out D (.sl (nx + 5) w5 1 0 d0.length) ++ [L (cutD d)] := (mix_snoc_ne (by omega) _ _).symm
        generalize hcd : cutD d = cd at hc6 hsn ⊢
        refine pw_frz 8 rfl ?_
        simp only [List.map_cons, hO5 8 _ _ (by omega), hO6 8 _ _ (by omega)]
        repeat refine pw_seq ?_
        refine pw_N [] (by rfl) (by rfl) fun K Gc Gh hK hGc hGh X hX0 hX => ?_
        simp -implicitDefEqProofs [hX0, hX, mix_frz]
        try clear hX0 hX X
        refine ⟨by omega, ?_⟩
        intros
        refine hK _ _ _ ?_
        clear hK hGc hGh
        clear K Gc Gh
        repeat refine pw_seq ?_
        refine pw_N [] (by rfl) (by rfl) fun K Gc Gh hK hGc hGh X hX0 hX => ?_
        simp -implicitDefEqProofs [hX0, hX]
        try clear hX0 hX X
        intros
        refine hK _ _ _ ?_
        clear hK hGc hGh
        clear K Gc Gh
        exact again_mk (a + 1, out ++ [cd], v3 + 1, w5, w6) [_, .dead] ⟨by omega, by omega, by rw [a3, ho, ← hcd]; simp⟩ (by simp; omega) (by simp [wrN a (by omega)]) rfl (by simp only [hsn, hoo5, hoo6]; simp; rfl)
    have hdd : d0 = cutD d := by
      have := hD
      simp only [cutP, List.getElem?_map, List.getElem?_take, ← haD] at this
      rw [if_pos (by omega), a1] at this
      simpa using this.symm
    rw [if_neg (by omega), if_neg (by omega)]
    refine pw_undead (obs := [_, _, _, _]) 3 ?_
    repeat refine pw_seq ?_
    refine pw_N [(5, 14)] (by rfl) (by rfl) fun K Gc Gh hK hGc hGh X hX0 hX => ?_
    simp -implicitDefEqProofs [hX0, hX, hq1, hq2]
    try clear hX0 hX X
    intros
    refine hK _ _ _ ?_
    clear hK hGc hGh
    clear K Gc Gh
    repeat refine pw_seq ?_
    refine pw_ct rfl ?_
    refine pw_skip (pw_seq (pw_block ?_))
    repeat refine pw_seq ?_
    refine pw_N [] (by rfl) (by rfl) fun K Gc Gh hK hGc hGh X hX0 hX => ?_
    simp -implicitDefEqProofs [hX0, hX]
    try clear hX0 hX X
    intro v4
    refine hK _ _ _ ?_
    clear hK hGc hGh
    clear K Gc Gh
    refine pw_seq (pw_nilObX 4 0 59 1 rfl rfl fun v5 => ?_)
    repeat refine pw_seq ?_
    refine pw_N [] (by rfl) (by rfl) fun K Gc Gh hK hGc hGh X hX0 hX => ?_
    simp -implicitDefEqProofs [hX0, hX]
    try clear hX0 hX X
    intros
    refine hK _ _ _ ?_
    clear hK hGc hGh
    clear K Gc Gh
    repeat refine pw_seq ?_
    refine pw_deads 1 ?_
    refine pw_joinK (nx := nx) (σ := Nat × Nat × Nat) (fun _ => True) (fun (v3, v5, w6) => [(1, .ptr nx v0 0), (2, .ptr (nx + 1) v1 0), (3, .ptr (nx + 2) v2 0), (4, I a), (5, .ptr (nx + 4) v4 0)]) (fun _ => S) (fun (v3, v5, w6) => [.cells v0 30 [L p], .cells v1 30 [.sc (.slice none 0 0)], .cells v2 30 [.sl (nx + 3) v3 1 0 out.length], .cells v3 45 (mixL out D (.sl (nx + 5) w5 1 0 d0.length)), .cells v4 45 [.sl (nx + 5) v5 1 0 d0.length], .cells v5 59 (mixL d0 T (.sl (nx + 6) w6 2 0 t0.length)), .cells w6 61 (t0.flatMap Enc.enc)]) ?_ ?_
    · refine pw_block (pw_loopL (fun s : Nat × Day × Nat × Nat => s.1 ≤ 6 ∧ s.1 ≤ d.length ∧ s.2.1 = (d.take s.1).map fun t => t.take 8) (fun (b, od, v5, w6) => [(1, .ptr nx v0 0), (2, .ptr (nx + 1) v1 0), (3, .ptr (nx + 2) v2 0), (4, I a), (5, .ptr (nx + 4) v4 0), (6, I b)]) (fun (b, od, v5, w6) => [.cells v0 30 [L p], .cells v1 30 [.sc (.slice none 0 0)], .cells v2 30 [.sl (nx + 3) v3 1 0 out.length], .cells v3 45 (mixL out D (.sl (nx + 5) w5 1 0 d0.length)), .cells v4 45 [.sl (nx + 5) v5 1 0 od.length], .cells v5 59 (mixL od T (.sl (nx + 6) w6 2 0 t0.length)), if T < b then .cells w6 61 (t0.flatMap Enc.enc) else .dead]) (fun s => 6 - s.1) (0, [], v5, 0) [] (by simp) (by simp) (by simp) ?_)
      rintro ⟨b, od, v5, w6⟩ ⟨hb6, hbd, hod⟩
      simp only at hb6 hbd hod ⊢
      have hodl : od.length = b := by rw [hod]; simp; omega
      have fin2 : (b = 6 ∨ b = d.length) → od = d0 ∧ T < b := by
        intro h
        have e : od = d0 := by
          rcases h with h | h
          · rw [hod, h, hdd]; rfl
          · rw [hod, hdd, cutD, List.take_of_length_le (by omega), List.take_of_length_le (by omega)]
        exact ⟨e, by rw [← hodl, e]; exact hTl⟩
      by_cases hq3 : b < d.length
      case neg =>
        obtain ⟨hk, hTb⟩ := fin2 (.inr (by omega))
        rw [if_pos hTb]
        repeat refine pw_seq ?_
        refine pw_N [(9, 29)] (by rfl) (by rfl) fun K Gc Gh hK hGc hGh X hX0 hX => ?_
        simp -implicitDefEqProofs [hX0, hX, hq1, e0, hq3, undef]
        try clear hX0 hX X
        intros
        refine hK _ _ _ ?_
        clear hK hGc hGh
        clear K Gc Gh
        repeat refine pw_seq ?_
        refine pw_cf rfl ?_
        exact pw_exit (at_mk (v3, v5, w6) [] trivial (by simp) rfl (by simp only [hk]; rfl))
      by_cases hq4 : (b : Int) < 6
      case neg =>
        obtain ⟨hk, hTb⟩ := fin2 (.inl (by omega))
        rw [if_pos hTb]
        repeat refine pw_seq ?_
        refine pw_N [(9, 29)] (by rfl) (by rfl) fun K Gc Gh hK hGc hGh X hX0 hX => ?_
        simp -implicitDefEqProofs [hX0, hX, hq1, e0, hq3, hq4]
        try clear hX0 hX X
        intros
        refine hK _ _ _ ?_
        clear hK hGc hGh
        clear K Gc Gh
        repeat refine pw_seq ?_
        refine pw_cf rfl ?_
        exact pw_exit (at_mk (v3, v5, w6) [] trivial (by simp) rfl (by simp only [hk]; rfl))
      obtain ⟨t, tl2, b1, b2, b3, e2⟩ := el1 rfl d b hq3
      have hO6' : ∀ (k v : Nat) cs, 7 ≤ k → frzO (nx + k) v cs (if T < b then .cells w6 61 (t0.flatMap Enc.enc) else .dead) = (if T < b then .cells w6 61 (t0.flatMap Enc.enc) else .dead) := by
        intro k v cs hk; split
        · simp only [frzO, frz_flat]
        · rfl
      by_cases hbT : b = T
      case neg =>
        have hoo : (if T < b + 1 then Ob.cells w6 61 (t0.flatMap Enc.enc) else .dead) = (if T < b then .cells w6 61 (t0.flatMap Enc.enc) else .dead) := by
          by_cases h : T < b
          · rw [if_pos h, if_pos (by omega)]
          · rw [if_neg h, if_neg (by omega)]
        generalize hO6e : (if T < b then Ob.cells w6 61 (t0.flatMap Enc.enc) else .dead) = O6 at hO6' hoo ⊢
        repeat refine pw_seq ?_
        refine pw_N [(9, 29)] (by rfl) (by rfl) fun K Gc Gh hK hGc hGh X hX0 hX => ?_
        simp -implicitDefEqProofs [hX0, hX, hq1, e0, hq3, hq4]
        try clear hX0 hX X
        intros
        refine hK _ _ _ ?_
        clear hK hGc hGh
        clear K Gc Gh
        repeat refine pw_seq ?_
        refine pw_ct rfl ?_
        refine pw_skip (pw_seq (pw_block ?_))
        repeat refine pw_seq ?_
        refine pw_N [] (by rfl) (by rfl) fun K Gc Gh hK hGc hGh X hX0 hX => ?_
        simp -implicitDefEqProofs [hX0, hX]
        try clear hX0 hX X
        intros
        refine hK _ _ _ ?_
        clear hK hGc hGh
        clear K Gc Gh
        refine pw_seq (pw_nilX 7 61 2 rfl fun v6 => ?_)
        repeat refine pw_seq ?_
        refine pw_N [] (by rfl) (by rfl) fun K Gc Gh hK hGc hGh X hX0 hX => ?_
        simp -implicitDefEqProofs [hX0, hX]
        try clear hX0 hX X
        intros
        refine hK _ _ _ ?_
        clear hK hGc hGh
        clear K Gc Gh
        repeat refine pw_seq ?_
        refine pw_joinK (nx := nx) (σ := Nat) (fun _ => True) (fun v6 => [(1, .ptr nx v0 0), (2, .ptr (nx + 1) v1 0), (3, .ptr (nx + 2) v2 0), (4, I a), (5, .ptr (nx + 4) v4 0), (6, I b), (7, .sl (nx + 7) v6 2 0 (t.take 8).length)]) (fun _ => S) (fun v6 => [.cells v0 30 [L p], .cells v1 30 [.sc (.slice none 0 0)], .cells v2 30 [.sl (nx + 3) v3 1 0 out.length], .cells v3 45 (mixL out D (.sl (nx + 5) w5 1 0 d0.length)), .cells v4 45 [.sl (nx + 5) v5 1 0 od.length], .cells v5 59 (mixL od T (.sl (nx + 6) w6 2 0 t0.length)), O6, .cells v6 61 ((t.take 8).flatMap Enc.enc)]) ?_ ?_
        · refine pw_block (pw_loopL (fun s : Nat × Nat => s.1 ≤ 8 ∧ s.1 ≤ t.length) (fun (j, v6) => [(1, .ptr nx v0 0), (2, .ptr (nx + 1) v1 0), (3, .ptr (nx + 2) v2 0), (4, I a), (5, .ptr (nx + 4) v4 0), (6, I b), (7, .sl (nx + 7) v6 2 0 (t.take j).length), (8, I j)]) (fun (j, v6) => [.cells v0 30 [L p], .cells v1 30 [.sc (.slice none 0 0)], .cells v2 30 [.sl (nx + 3) v3 1 0 out.length], .cells v3 45 (mixL out D (.sl (nx + 5) w5 1 0 d0.length)), .cells v4 45 [.sl (nx + 5) v5 1 0 od.length], .cells v5 59 (mixL od T (.sl (nx + 6) w6 2 0 t0.length)), O6, .cells v6 61 ((t.take j).flatMap Enc.enc)]) (fun s => 8 - s.1) (0, v6) [] (by simp) (by simp) (by simp) ?_)
          rintro ⟨j, v6⟩ ⟨hj8, hjt⟩
          simp only at hj8 hjt ⊢
          have fin3 : (j = 8 ∨ j = t.length) → t.take j = t.take 8 := by
            rintro (h | h)
            · rw [h]
            · rw [h, List.take_length, List.take_of_length_le (by omega)]
          by_cases hq5 : j < t.length
          case neg =>
            have hk := fin3 (.inr (by omega))
            rw [hk]
            repeat refine pw_seq ?_
            refine pw_N [(13, 48)] (by rfl) (by rfl) fun K Gc Gh hK hGc hGh X hX0 hX => ?_
            simp -implicitDefEqProofs [hX0, hX, hq1, e0, hq3, e2, hq5, undef]
            try clear hX0 hX X
            intros
            refine hK _ _ _ ?_
            clear hK hGc hGh
            clear K Gc Gh
            repeat refine pw_seq ?_
            refine pw_cf rfl ?_
            exact pw_exit (at_mk v6 [] trivial (by simp) rfl (by simp))
          by_cases hq6 : (j : Int) < 8
          case neg =>
            have hk := fin3 (.inl (by omega))
            rw [hk]
            repeat refine pw_seq ?_
            refine pw_N [(13, 48)] (by rfl) (by rfl) fun K Gc Gh hK hGc hGh X hX0 hX => ?_
            simp -implicitDefEqProofs [hX0, hX, hq1, e0, hq3, e2, hq5, hq6]
            try clear hX0 hX X
            intros
            refine hK _ _ _ ?_
            clear hK hGc hGh
            clear K Gc Gh
            repeat refine pw_seq ?_
            refine pw_cf rfl ?_
            exact pw_exit (at_mk v6 [] trivial (by simp) rfl (by simp))
          obtain ⟨s, tl3, c1, c2, c3, _, e3⟩ := el 2 rfl t j hq5
          have hjl : (t.take j).length = j := by simp; omega
          have hjl2 : (t.take (j + 1)).length = j + 1 := by simp; omega
          generalize htj : t.take j = tj at hjl c3
          repeat refine pw_seq ?_
          refine pw_N [(13, 48)] (by rfl) (by rfl) fun K Gc Gh hK hGc hGh X hX0 hX => ?_
          simp -implicitDefEqProofs [hX0, hX, hq1, e0, hq3, e2, hq5, hq6]
          try clear hX0 hX X
          intros
          refine hK _ _ _ ?_
          clear hK hGc hGh
          clear K Gc Gh
          repeat refine pw_seq ?_
          refine pw_ct rfl ?_
          refine pw_skip (pw_seq (pw_block ?_))
          repeat refine pw_seq ?_
          refine pw_N [] (by rfl) (by rfl) fun K Gc Gh hK hGc hGh X hX0 hX => ?_
          simp -implicitDefEqProofs [hX0, hX, hq1, e0, hq3, e2, hq5, e3]
          try clear hX0 hX X
          refine ⟨by omega, ?_⟩
          intros
          refine hK _ _ _ ?_
          clear hK hGc hGh
          clear K Gc Gh
          repeat refine pw_seq ?_
          refine pw_N [] (by rfl) (by rfl) fun K Gc Gh hK hGc hGh X hX0 hX => ?_
          simp -implicitDefEqProofs [hX0, hX]
          try clear hX0 hX X
          intros
          refine hK _ _ _ ?_
          clear hK hGc hGh
          clear K Gc Gh
          exact again_mk (j + 1, v6 + 1) [] ⟨by omega, by omega⟩ (by simp; omega) (by simp [wrN j (by omega), c3]) rfl (by simp [c3])
        · intro v6 _
          have hfr : (t.take 8).length * 2 = ((t.take 8).flatMap Enc.enc).length := by rw [flen_stop]
          have hsn : mixL (od ++ [t.take 8]) T (.sl (nx + 6) w6 2 0 t0.length) = mixL od T (.sl (nx + 6) w6 2 0 t0.length) ++ [L (t.take 8)] := (mix_snoc_ne (by omega) _ _).symm
          generalize ht8 : t.take 8 = t8 at hfr hsn ⊢
          refine pw_frz 7 rfl ?_
          simp only [List.map_cons, hO6' 7 _ _ (by omega)]
          repeat refine pw_seq ?_
          refine pw_N [] (by rfl) (by rfl) fun K Gc Gh hK hGc hGh X hX0 hX => ?_
          simp -implicitDefEqProofs [hX0, hX, mix_frz]
          try clear hX0 hX X
          refine ⟨by omega, ?_⟩
          intros
          refine hK _ _ _ ?_
          clear hK hGc hGh
          clear K Gc Gh
          repeat refine pw_seq ?_
          refine pw_N [] (by rfl) (by rfl) fun K Gc Gh hK hGc hGh X hX0 hX => ?_
          simp -implicitDefEqProofs [hX0, hX]
          try clear hX0 hX X
          intros
          refine hK _ _ _ ?_
          clear hK hGc hGh
          clear K Gc Gh
          exact again_mk (b + 1, od ++ [t8], v5 + 1, w6) [.dead] ⟨by omega, by omega, by rw [b3, hod, ← ht8]; simp⟩ (by simp; omega) (by simp [wrN b (by omega)]) rfl (by simp only [hsn, hoo]; simp)

      have ht8 : t.take 8 = t0 := by
        have := hT
        rw [hdd] at this
        simp only [cutD, List.getElem?_map, List.getElem?_take, ← hbT] at this
        rw [if_pos (by omega), b1] at this
        simpa using this
      rw [if_neg (by omega)]
      refine pw_undead (obs := [_, _, _, _, _, _]) 1 ?_
      repeat refine pw_seq ?_
      refine pw_N [(9, 29)] (by rfl) (by rfl) fun K Gc Gh hK hGc hGh X hX0 hX => ?_
      simp -implicitDefEqProofs [hX0, hX, hq1, e0, hq3, hq4]
      try clear hX0 hX X
      intros
      refine hK _ _ _ ?_
      clear hK hGc hGh
      clear K Gc Gh
      repeat refine pw_seq ?_
      refine pw_ct rfl ?_
      refine pw_skip (pw_seq (pw_block ?_))
      repeat refine pw_seq ?_
      refine pw_N [] (by rfl) (by rfl) fun K Gc Gh hK hGc hGh X hX0 hX => ?_
      simp -implicitDefEqProofs [hX0, hX]
      try clear hX0 hX X
      intros
      refine hK _ _ _ ?_
      clear hK hGc hGh
      clear K Gc Gh
      refine pw_seq (pw_nilX 7 61 2 rfl fun v6 => ?_)
      repeat refine pw_seq ?_
      refine pw_N [] (by rfl) (by rfl) fun K Gc Gh hK hGc hGh X hX0 hX => ?_
      simp -implicitDefEqProofs [hX0, hX]
      try clear hX0 hX X
      intros
      refine hK _ _ _ ?_
      clear hK hGc hGh
      clear K Gc Gh
      repeat refine pw_seq ?_
      refine pw_joinK (nx := nx) (σ := Nat) (fun _ => True) (fun v6 => [(1, .ptr nx v0 0), (2, .ptr (nx + 1) v1 0), (3, .ptr (nx + 2) v2 0), (4, I a), (5, .ptr (nx + 4) v4 0), (6, I b), (7, .sl (nx + 6) v6 2 0 (t.take 8).length)]) (fun _ => S) (fun v6 => [.cells v0 30 [L p], .cells v1 30 [.sc (.slice none 0 0)], .cells v2 30 [.sl (nx + 3) v3 1 0 out.length], .cells v3 45 (mixL out D (.sl (nx + 5) w5 1 0 d0.length)), .cells v4 45 [.sl (nx + 5) v5 1 0 od.length], .cells v5 59 (mixL od T (.sl (nx + 6) w6 2 0 t0.length)), .cells v6 61 ((t.take 8).flatMap Enc.enc)]) ?_ ?_
      · refine pw_block (pw_loopL (fun s : Nat × Nat => s.1 ≤ 8 ∧ s.1 ≤ t.length) (fun (j, v6) => [(1, .ptr nx v0 0), (2, .ptr (nx + 1) v1 0), (3, .ptr (nx + 2) v2 0), (4, I a), (5, .ptr (nx + 4) v4 0), (6, I b), (7, .sl (nx + 6) v6 2 0 (t.take j).length), (8, I j)]) (fun (j, v6) => [.cells v0 30 [L p], .cells v1 30 [.sc (.slice none 0 0)], .cells v2 30 [.sl (nx + 3) v3 1 0 out.length], .cells v3 45 (mixL out D (.sl (nx + 5) w5 1 0 d0.length)), .cells v4 45 [.sl (nx + 5) v5 1 0 od.length], .cells v5 59 (mixL od T (.sl (nx + 6) w6 2 0 t0.length)), .cells v6 61 ((t.take j).flatMap Enc.enc)]) (fun s => 8 - s.1) (0, v6) [] (by simp) (by simp) (by simp) ?_)
        rintro ⟨j, v6⟩ ⟨hj8, hjt⟩
        simp only at hj8 hjt ⊢
        have fin3 : (j = 8 ∨ j = t.length) → t.take j = t.take 8 := by
          rintro (h | h)
          · rw [h]
          · rw [h, List.take_length, List.take_of_length_le (by omega)]
        by_cases hq5 : j < t.length
        case neg =>
          have hk := fin3 (.inr (by omega))
          rw [hk]
          repeat refine pw_seq ?_
          refine pw_N [(13, 48)] (by rfl) (by rfl) fun K Gc Gh hK hGc hGh X hX0 hX => ?_
          simp -implicitDefEqProofs [hX0, hX, hq1, e0, hq3, e2, hq5, undef]
          try clear hX0 hX X
          intros
          refine hK _ _ _ ?_
          clear hK hGc hGh
          clear K Gc Gh
          repeat refine pw_seq ?_
          refine pw_cf rfl ?_
          exact pw_exit (at_mk v6 [] trivial (by simp) rfl (by simp))
        by_cases hq6 : (j : Int) < 8
        case neg =>
          have hk := fin3 (.inl (by omega))
          rw [hk]
          repeat refine pw_seq ?_
          refine pw_N [(13, 48)] (by rfl) (by rfl) fun K Gc Gh hK hGc hGh X hX0 hX => ?_
          simp -implicitDefEqProofs [hX0, hX, hq1, e0, hq3, e2, hq5, hq6]
          try clear hX0 hX X
          intros
          refine hK _ _ _ ?_
          clear hK hGc hGh
          clear K Gc Gh
          repeat refine pw_seq ?_
          refine pw_cf rfl ?_
          exact pw_exit (at_mk v6 [] trivial (by simp) rfl (by simp))
        obtain ⟨s, tl3, c1, c2, c3, _, e3⟩ := el 2 rfl t j hq5
        have hjl : (t.take j).length = j := by simp; omega
        have hjl2 : (t.take (j + 1)).length = j + 1 := by simp; omega
        generalize htj : t.take j = tj at hjl c3
        repeat refine pw_seq ?_
        refine pw_N [(13, 48)] (by rfl) (by rfl) fun K Gc Gh hK hGc hGh X hX0 hX => ?_
        simp -implicitDefEqProofs [hX0, hX, hq1, e0, hq3, e2, hq5, hq6]
        try clear hX0 hX X
        intros
        refine hK _ _ _ ?_
        clear hK hGc hGh
        clear K Gc Gh
        repeat refine pw_seq ?_
        refine pw_ct rfl ?_
        refine pw_skip (pw_seq (pw_block ?_))
        repeat refine pw_seq ?_
        refine pw_N [] (by rfl) (by rfl) fun K Gc Gh hK hGc hGh X hX0 hX => ?_
        simp -implicitDefEqProofs [hX0, hX, hq1, e0, hq3, e2, hq5, e3]
        try clear hX0 hX X
        refine ⟨by omega, ?_⟩
        intros
        refine hK _ _ _ ?_
        clear hK hGc hGh
        clear K Gc Gh
        repeat refine pw_seq ?_
        refine pw_N [] (by rfl) (by rfl) fun K Gc Gh hK hGc hGh X hX0 hX => ?_
        simp -implicitDefEqProofs [hX0, hX]
        try clear hX0 hX X
        intros
        refine hK _ _ _ ?_
        clear hK hGc hGh
        clear K Gc Gh
        exact again_mk (j + 1, v6 + 1) [] ⟨by omega, by omega⟩ (by simp; omega) (by simp [wrN j (by omega), c3]) rfl (by simp [c3])
      · intro v6 _
        have hsn : mixL (od ++ [t0]) T (.sl (nx + 6) v6 2 0 t0.length) = mixL od T (.sl (nx + 6) w6 2 0 t0.length) ++ [.sl (nx + 6) v6 2 0 t0.length] := (mix_snoc_eq (by omega) _ _ _).symm
        rw [ht8]
        repeat refine pw_seq ?_
        refine pw_N [] (by rfl) (by rfl) fun K Gc Gh hK hGc hGh X hX0 hX => ?_
        simp -implicitDefEqProofs [hX0, hX]
        try clear hX0 hX X
        refine ⟨by omega, ?_⟩
        intros
        refine hK _ _ _ ?_
        clear hK hGc hGh
        clear K Gc Gh
        repeat refine pw_seq ?_
        refine pw_N [] (by rfl) (by rfl) fun K Gc Gh hK hGc hGh X hX0 hX => ?_
        simp -implicitDefEqProofs [hX0, hX]
        try clear hX0 hX X
        intros
        refine hK _ _ _ ?_
        clear hK hGc hGh
        clear K Gc Gh
        exact again_mk (b + 1, od ++ [t0], v5 + 1, v6) [] ⟨by omega, by omega, by rw [b3, hod, ← ht8]; simp⟩ (by simp; omega) (by simp [wrN b (by omega)]) rfl (by simp only [hsn]; rw [if_pos (by omega)]; simp)

    · rintro ⟨v3, v5, w6⟩ -
      simp only
      have hsn : mixL (out ++ [d0]) D (.sl (nx + 5) v5 1 0 d0.length) = mixL out D (.sl (nx + 5) w5 1 0 d0.length) ++ [.sl (nx + 5) v5 1 0 d0.length] := (mix_snoc_eq (by omega) _ _ _).symm
      repeat refine pw_seq ?_
      refine pw_N [] (by rfl) (by rfl) fun K Gc Gh hK hGc hGh X hX0 hX => ?_
      simp -implicitDefEqProofs [hX0, hX]
      try clear hX0 hX X
      refine ⟨by omega, ?_⟩
      intros
      refine hK _ _ _ ?_
      clear hK hGc hGh
      clear K Gc Gh
      refine pw_frz 4 rfl ?_
      repeat refine pw_seq ?_
      refine pw_N [] (by rfl) (by rfl) fun K Gc Gh hK hGc hGh X hX0 hX => ?_
      simp -implicitDefEqProofs [hX0, hX, mix_frz]
      try clear hX0 hX X
      intros
      refine hK _ _ _ ?_
      clear hK hGc hGh
      clear K Gc Gh
      exact again_mk (a + 1, out ++ [d0], v3 + 1, v5, w6) [] ⟨by omega, by omega, by rw [a3, ho, hdd]; simp⟩ (by simp; omega) (by simp [wrN a (by omega)]) rfl (by simp only [hsn]; rw [if_pos (by omega), if_pos (by omega)]; simp)
  · rintro ⟨v3, w5, w6⟩ -
    repeat refine pw_seq ?_
    refine pw_N [] (by rfl) (by rfl) fun K Gc Gh hK hGc hGh X hX0 hX => ?_
    simp -implicitDefEqProofs [hX0, hX]
    try clear hX0 hX X
    intros
    refine hK _ _ _ ?_
    clear hK hGc hGh
    clear K Gc Gh
    repeat refine pw_seq ?_
    refine pw_ret ⟨_, _, by simp; rfl, ⟨v3, w5, w6, by simp [oneOf], rfl⟩, keep_ext fun i => ?_⟩
    match i with
    | 0 => exact .inr rfl
    | 1 => exact .inr rfl
    | 2 => exact .inr rfl
    | 3 => exact .inl rfl
    | 4 => exact .inl rfl
    | 5 => exact .inl rfl
    | 6 => exact .inl rfl
    | i + 7 => exact .inr rfl

end Go.Proofs.YtlkcdaeknioanaaGreat.Pv
