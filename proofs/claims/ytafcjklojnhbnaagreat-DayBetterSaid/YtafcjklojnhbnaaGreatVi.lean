/- slices.AppendSeq, slices.Collect at pairs, savings.Pairs. -/
import Derived.Test.YtafcjklojnhbnaaGreatVg
namespace Go.Proofs.YtafcjklojnhbnaaGreat.Pv
open Go Hp

theorem pairsP_le {x : Inst} {c : List Int} (h : c.Nodup) (hc : c.length ≤ 1000) : (pairsP x c).length ≤ 1000000 := by
  rw [pairsP_len h]
  exact Nat.le_trans (Nat.mul_le_mul hc (Nat.sub_le _ _)) (Nat.mul_le_mul_left 1000 hc)

end Go.Proofs.YtafcjklojnhbnaaGreat.Pv

/- tranterref13.Pairs: the same pairs, put in one by one. -/
namespace Go.Proofs.YtafcjklojnhbnaaGreat.Pv
open Go Hp

/-- The pairs of the first i customers, and of the next one those with the first k. -/
def prsTo (x : Inst) (c : List Int) (i k : Nat) (a : Int) : List Pr := (c.take i).flatMap (prsOf x c) ++ prsOf x (c.take k) a
theorem prsTo_sub (x : Inst) (c : List Int) (i k : Nat) (a : Int) (h : c[i]? = some a) : (prsTo x c i k a).Sublist (prsAll x c) := by
  unfold prsTo prsAll
  obtain ⟨hi, e⟩ := List.getElem?_eq_some_iff.1 h
  have e3 : c = c.take i ++ a :: c.drop (i + 1) := by
    conv => lhs; rw [← List.take_append_drop i c, List.drop_eq_getElem_cons hi, e]
  have h2 : (prsOf x (c.take k) a).Sublist (prsOf x c a) := ((List.take_sublist k c).filter _).map _
  have h3 : ∀ f : Int → List Pr, c.flatMap f = (c.take i).flatMap f ++ (f a ++ (c.drop (i + 1)).flatMap f) := by
    intro f
    conv => lhs; rw [e3]
    simp
  rw [h3]
  exact (List.Sublist.refl _).append (h2.trans (List.sublist_append_left _ _))
theorem prsTo_next (x : Inst) (c : List Int) (i : Nat) (a : Int) (h : c.take (i + 1) = c.take i ++ [a]) : prsTo x c i c.length a = (c.take (i + 1)).flatMap (prsOf x c) := by
  unfold prsTo
  rw [h, List.take_length]; simp
theorem prsTo_zero (x : Inst) (c : List Int) (i : Nat) (a : Int) : prsTo x c i 0 a = (c.take i).flatMap (prsOf x c) := by simp [prsTo, prsOf]
theorem prsTo_same {x : Inst} {c : List Int} {i k : Nat} {a : Int} (h : c.take (k + 1) = c.take k ++ [a]) : prsTo x c i (k + 1) a = prsTo x c i k a := by
  unfold prsTo
  rw [h, prsOf_snoc]; simp
theorem prsTo_other {x : Inst} {c : List Int} {i k : Nat} {a b : Int} (h : c.take (k + 1) = c.take k ++ [b]) (hab : b ≠ a) : prsTo x c i (k + 1) a = prsTo x c i k a ++ [⟨a, b, savZ x a b⟩] := by
  unfold prsTo
  rw [h, prsOf_snoc, if_pos hab]; simp

/-- A pair put in. -/
theorem put_in {x : Inst} {c : List Int} (hn : c.Nodup) {i k : Nat} {a b : Int} (hi : c[i]? = some a) (h : c.take (k + 1) = c.take k ++ [b]) (hab : b ≠ a) {out : List Pr} (hp : out.Perm (prsTo x c i k a)) (hs : Sd plt out) {j : Nat} (h1 : ∀ (j' : Nat) z, j ≤ j' → out[j']? = some z → plt ⟨a, b, savZ x a b⟩ z = true) (h2 : j = 0 ∨ ∃ z, out[j - 1]? = some z ∧ plt ⟨a, b, savZ x a b⟩ z = false) :
    (out.take j ++ ⟨a, b, savZ x a b⟩ :: out.drop j).Perm (prsTo x c i (k + 1) a) ∧ Sd plt (out.take j ++ ⟨a, b, savZ x a b⟩ :: out.drop j) := by
  have hsub := prsTo_sub x c i (k + 1) a hi
  have hnd := (prsAll_nodup (x := x) hn).sublist hsub
  rw [prsTo_other h hab] at hnd ⊢
  have hno : (⟨a, b, savZ x a b⟩ : Pr) ∉ out := by
    intro hm
    have := List.nodup_append.1 hnd
    exact this.2.2 _ (hp.subset hm) _ (by simp) rfl
  refine ⟨(put_perm out _ j).trans ?_, sd_put plt_str hs hno h1 h2⟩
  exact (hp.cons _).trans (List.perm_append_comm (l₁ := [_]))

set_option maxRecDepth 20000 in
theorem pairsR_ok (x : Inst) (ss : List Stop) (hx : ArcOk x) (hss : ss.length ≤ 1000) (hs : ∀ s ∈ ss, small s.c) (hnd : (ss.map (·.c)).Nodup) : Pure Tryz.prog 71 [.agg (instL x), L ss] (L (pairsP x (ss.map (·.c)))) := by
  obtain ⟨c, hc⟩ : ∃ c, c = ss.map (·.c) := ⟨_, rfl⟩
  have hcl : c.length = ss.length := by rw [hc]; simp
  have hpl := pairsP_le (x := x) hnd (by simpa using hss)
  rw [← hc] at hnd hpl ⊢
  have hat : ∀ (k : Nat) (s : Stop), ss[k]? = some s → c[k]? = some s.c := by intro k s h; rw [hc, List.getElem?_map, h]; rfl
  have htk : ∀ (k : Nat) (s : Stop), ss.take (k + 1) = ss.take k ++ [s] → c.take (k + 1) = c.take k ++ [s.c] := by
    intro k s h; rw [hc, ← List.map_take, h, ← List.map_take]; simp
  have hbig : ∀ l : List Pr, l.Sublist (prsAll x c) → l.length ≤ 1000000 := by
    intro l h
    have h1 := h.length_le
    have h2 := (pairsP_perm x c).length_eq
    omega
  clear hc
  refine pure_enter Tryz.func71 (by rfl) rfl Tryz.ntmps71 (congrArg Array.toList Tryz.results71) (by simp) fun S nx hd => ?_
  repeat refine pw_seq ?_
  refine pw_N [] (by rfl) (by rfl) fun K Gc Gh hK hGc hGh X hX0 hX => ?_
  simp -implicitDefEqProofs [hX0, hX]
  try clear hX0 hX X
  intro v0
  refine hK _ _ _ ?_
  clear hK hGc hGh
  clear K Gc Gh
  repeat refine pw_seq ?_
  refine pw_N [] (by rfl) (by rfl) fun K Gc Gh hK hGc hGh X hX0 hX => ?_
  simp -implicitDefEqProofs [hX0, hX]
  try clear hX0 hX X
  intros
  refine hK _ _ _ ?_
  clear hK hGc hGh
  clear K Gc Gh
  refine pw_seq (pw_nil_lst 5 rfl ?_)
  repeat refine pw_seq ?_
  refine pw_N [] (by rfl) (by rfl) fun K Gc Gh hK hGc hGh X hX0 hX => ?_
  simp -implicitDefEqProofs [hX0, hX]
  try clear hX0 hX X
  intros
  refine hK _ _ _ ?_
  clear hK hGc hGh
  clear K Gc Gh
  repeat refine pw_seq ?_
  refine pw_block (pw_loopL (fun s : Nat × List Pr => s.1 ≤ ss.length ∧ s.2.Perm ((c.take s.1).flatMap (prsOf x c)) ∧ Sd plt s.2) (fun (i, out) => [(1, L ss), (2, .ptr nx v0 0), (5, L out), (6, I i)]) (fun (i, out) => [.cells v0 25 (instL x)]) (fun s => ss.length - s.1) (0, []) [] ⟨by simp, by simp, List.Pairwise.nil⟩ (by simp) (by simp) ?_)
  rintro ⟨i, out⟩ ⟨hi, hp, hsd⟩
  simp only at hi hp hsd ⊢
  repeat refine pw_seq ?_
  refine pw_N [] (by rfl) (by rfl) fun K Gc Gh hK hGc hGh X hX0 hX => ?_
  simp -implicitDefEqProofs [hX0, hX]
  try clear hX0 hX X
  intros
  refine hK _ _ _ ?_
  clear hK hGc hGh
  clear K Gc Gh
  repeat refine pw_seq ?_
  refine pw_cond rfl (fun hq => ?_) (fun hq => ?_)
  · simp at hq
    obtain ⟨s, tl, a1, a2, a3, e1, e0⟩ := el 2 rfl ss i hq
    have hai := hat i s a1
    have hsa := hs s (List.mem_of_getElem? a1)
    rw [← prsTo_zero x c i s.c] at hp
    refine pw_skip (pw_seq (pw_block ?_))
    repeat refine pw_seq ?_
    refine pw_N [] (by rfl) (by rfl) fun K Gc Gh hK hGc hGh X hX0 hX => ?_
    simp -implicitDefEqProofs [hX0, hX]
    try clear hX0 hX X
    intros
    refine hK _ _ _ ?_
    clear hK hGc hGh
    clear K Gc Gh
    repeat refine pw_seq ?_
    refine pw_block (pw_loopL (fun t : Nat × List Pr => t.1 ≤ ss.length ∧ t.2.Perm (prsTo x c i t.1 s.c) ∧ Sd plt t.2) (fun (k, out) => [(1, L ss), (2, .ptr nx v0 0), (5, L out), (6, I i), (7, I k)]) (fun (k, out) => [.cells v0 25 (instL x)]) (fun t => ss.length - t.1) (0, out) [] ⟨by simp, hp, hsd⟩ (by simp) (by simp) ?_)
    clear hp hsd out
    rintro ⟨k, out⟩ ⟨hk, hp, hsd⟩
    simp only at hk hp hsd ⊢
    repeat refine pw_seq ?_
    refine pw_N [] (by rfl) (by rfl) fun K Gc Gh hK hGc hGh X hX0 hX => ?_
    simp -implicitDefEqProofs [hX0, hX]
    try clear hX0 hX X
    intros
    refine hK _ _ _ ?_
    clear hK hGc hGh
    clear K Gc Gh
    repeat refine pw_seq ?_
    refine pw_cond rfl (fun hq2 => ?_) (fun hq2 => ?_)
    · simp at hq2
      obtain ⟨t, tl2, b1, b2, b3, f1, f0⟩ := el 2 rfl ss k hq2
      have hst := hs t (List.mem_of_getElem? b1)
      have hck := htk k t b3
      have hol : out.length ≤ 1000000 := by rw [hp.length_eq]; exact hbig _ (prsTo_sub x c i k s.c hai)
      refine pw_skip (pw_seq (pw_block ?_))
      repeat refine pw_seq ?_
      refine pw_N [] (by rfl) (by rfl) fun K Gc Gh hK hGc hGh X hX0 hX => ?_
      simp -implicitDefEqProofs [hX0, hX]
      try clear hX0 hX X
      intros
      refine hK _ _ _ ?_
      clear hK hGc hGh
      clear K Gc Gh
      repeat refine pw_seq ?_
      refine pw_cond rfl (fun hik => ?_) (fun hik => ?_)
      · simp at hik
        obtain rfl : i = k := by omega
        rw [a1] at b1; cases b1
        refine pw_exit ?_
        repeat refine pw_seq ?_
        refine pw_N [] (by rfl) (by rfl) fun K Gc Gh hK hGc hGh X hX0 hX => ?_
        simp -implicitDefEqProofs [hX0, hX]
        try clear hX0 hX X
        intros
        refine hK _ _ _ ?_
        clear hK hGc hGh
        clear K Gc Gh
        exact again_mk (i + 1, out) [] ⟨hq2, by rw [prsTo_same hck]; exact hp, hsd⟩ (by simp; omega) (by simp [wrN i (by omega)]) rfl (by simp)
      · simp at hik
        have hba : t.c ≠ s.c := by
          intro e
          have hck2 := hat k t b1
          obtain ⟨g1, g2⟩ := List.getElem?_eq_some_iff.1 hai
          obtain ⟨g3, g4⟩ := List.getElem?_eq_some_iff.1 hck2
          have hp2 := List.pairwise_iff_getElem.1 hnd
          rcases Nat.lt_trichotomy i k with h | h | h
          · exact hp2 i k g1 g3 h (by rw [g2, g4, e])
          · exact hik (by omega)
          · exact hp2 k i g3 g1 h (by rw [g2, g4, e])
        have hput := fun j => put_in (x := x) hnd hai hck hba hp hsd (j := j)
        have hnx := prsTo_other (x := x) (i := i) hck hba
        obtain ⟨p, hpp⟩ : ∃ p : Pr, p = ⟨s.c, t.c, savZ x s.c t.c⟩ := ⟨_, rfl⟩
        have hp1 : s.c = p.a := by rw [hpp]
        have hp2 : t.c = p.b := by rw [hpp]
        have hp3 : savZ x s.c t.c = p.s := by rw [hpp]
        rw [← hpp] at hput
        refine pw_skip ?_
        repeat refine pw_seq ?_
        refine pw_Y (some [nx]) (Row.pures [0, 1, 2, 3, 4, 5, 6, 7, 8, 9, 10, 11, 12, 13, 14, 15, 16, 17, 18, 19, 20, 21, 22] (.alt 23 (.alt 24 (.done) .stop) .stop)) mixed (by rfl) (by rfl) (by rfl) fun K Gp Gc Gh hK hGp hGc hGh X hX0 hX1 hX2 hX => ?_
        simp -implicitDefEqProofs [hX2, e0, f0, hq, hq2]
        try clear hX0 hX1 hX2 hX X
        refine hGp _ _ _ _ _ _ _ _ (savesR_ok x s.c t.c hx hsa hst) ?_
        clear hGp hGc hGh
        clear Gp Gc Gh
        refine px_go fun Gp Gc Gh hGp hGc hGh X hX0 hX1 hX2 hX => ?_
        simp -implicitDefEqProofs [hX0, hX1, hX2, hX]
        try clear hX0 hX1 hX2 hX X
        intro v1
        refine hK _ _ _ ?_
        clear hK hGp hGc hGh
        clear K Gp Gc Gh
        rw [hp3, hp1, hp2]
        repeat refine pw_seq ?_
        refine pw_N [] (by rfl) (by rfl) fun K Gc Gh hK hGc hGh X hX0 hX => ?_
        simp -implicitDefEqProofs [hX0, hX]
        try clear hX0 hX X
        intros
        refine hK _ _ _ ?_
        clear hK hGc hGh
        clear K Gc Gh
        repeat refine pw_seq ?_
        refine pw_joinK (nx := nx) (fun j : Nat => j ≤ out.length ∧ (∀ (j' : Nat) z, j ≤ j' → out[j']? = some z → plt p z = true) ∧ (j = 0 ∨ ∃ z, out[j - 1]? = some z ∧ plt p z = false)) (fun j => [(1, L ss), (2, .ptr nx v0 0), (5, L out), (6, I i), (7, I k), (8, .ptr (nx + 1) v1 0), (9, I j)]) (fun _ => S) (fun j => [.cells v0 25 (instL x), .cells v1 117 (Enc.enc p)]) ?_ ?_
        · refine pw_block (pw_loopL (fun j : Nat => j ≤ out.length ∧ (∀ (j' : Nat) z, j ≤ j' → out[j']? = some z → plt p z = true)) (fun j => [(1, L ss), (2, .ptr nx v0 0), (5, L out), (6, I i), (7, I k), (8, .ptr (nx + 1) v1 0), (9, I j)]) (fun j => [.cells v0 25 (instL x), .cells v1 117 (Enc.enc p)]) (fun j => j) out.length [] ⟨Nat.le_refl _, fun j' z h1 h2 => by have := (List.getElem?_eq_some_iff.1 h2).1; omega⟩ (by simp) (by simp) ?_)
          rintro j ⟨hj, hj2⟩
          by_cases h0 : 0 < j
          · obtain ⟨m, rfl⟩ : ∃ m, j = m + 1 := ⟨j - 1, by omega⟩
            obtain ⟨z, tz, c1, c2, c3, g1, g0⟩ := el 3 rfl out m (by omega)
            have wm : IntKind.i64.wrap (m : Int) = m := wr _ (by omega) (by omega)
            have hm1 : m < out.length := by omega
            have hm2 : (0 : Int) < (m : Int) + 1 := by omega
            repeat refine pw_seq ?_
            refine pw_Y none (Row.pures [0, 1, 2, 3, 4, 5, 6, 7, 8, 9, 10] .done) mixed (by rfl) (by rfl) (by rfl) fun K Gp Gc Gh hK hGp hGc hGh X hX0 hX1 hX2 hX => ?_
            simp -implicitDefEqProofs [hX2, wm, hm1, hm2, g0]
            try clear hX0 hX1 hX2 hX X
            refine hGp _ _ _ _ _ _ _ _ (aheadR_ok p z) ?_
            clear hGp hGc hGh
            clear Gp Gc Gh
            refine px_go fun Gp Gc Gh hGp hGc hGh X hX0 hX1 hX2 hX => ?_
            simp -implicitDefEqProofs [hX0, hX2]
            try clear hX0 hX1 hX2 hX X
            refine hK _ _ _ ?_
            clear hK hGp hGc hGh
            clear K Gp Gc Gh
            repeat refine pw_seq ?_
            refine pw_cond rfl (fun ha => ?_) (fun ha => ?_)
            · refine pw_skip (pw_block ?_)
              repeat refine pw_seq ?_
              refine pw_N [] (by rfl) (by rfl) fun K Gc Gh hK hGc hGh X hX0 hX => ?_
              simp -implicitDefEqProofs [hX0, hX, wm]
              try clear hX0 hX X
              intros
              refine hK _ _ _ ?_
              clear hK hGc hGh
              clear K Gc Gh
              refine again_mk m [] ⟨by omega, fun j' z' h1 h2 => ?_⟩ (by simp) (by simp) rfl (by simp)
              by_cases e : j' = m
              · subst e; rw [c1] at h2; cases h2; exact ha
              · exact hj2 j' z' (by omega) h2
            · refine pw_exit ?_
              exact at_mk (m + 1) [] ⟨hj, hj2, .inr ⟨z, c1, ha⟩⟩ (by simp) rfl (by simp)
          · obtain rfl : j = 0 := by omega
            repeat refine pw_seq ?_
            refine pw_Y none (Row.pures [0, 1, 2, 3, 4, 5, 6, 7, 8, 9, 10] .done) mixed (by rfl) (by rfl) (by rfl) fun K Gp Gc Gh hK hGp hGc hGh X hX0 hX1 hX2 hX => ?_
            simp -implicitDefEqProofs [hX0, hX2, undef]
            try clear hX0 hX1 hX2 hX X
            intros
            refine hK _ _ _ ?_
            clear hK hGp hGc hGh
            clear K Gp Gc Gh
            repeat refine pw_seq ?_
            refine pw_cf rfl ?_
            refine pw_exit ?_
            exact at_mk 0 [] ⟨hj, hj2, .inl rfl⟩ (by simp) rfl (by simp)
        · rintro j ⟨hj, hj1, hj2⟩
          obtain ⟨r1, r2⟩ := hput j hj1 hj2
          have htk3 : (out.flatMap Enc.enc).take (j * 3) = (out.take j).flatMap Enc.enc := flat_take Enc.enc 3 (fun _ => rfl) out j
          have hdr3 : (out.flatMap Enc.enc).drop (j * 3) = (out.drop j).flatMap Enc.enc := flat_drop Enc.enc 3 (fun _ => rfl) out j
          repeat refine pw_seq ?_
          refine pw_N [] (by rfl) (by rfl) fun K Gc Gh hK hGc hGh X hX0 hX => ?_
          simp -implicitDefEqProofs [hX0, hX]
          try clear hX0 hX X
          intros
          refine hK _ _ _ ?_
          clear hK hGc hGh
          clear K Gc Gh
          refine pw_seq (pw_nilX 10 117 3 rfl fun v2 => ?_)
          repeat refine pw_seq ?_
          refine pw_N [] (by rfl) (by rfl) fun K Gc Gh hK hGc hGh X hX0 hX => ?_
          simp -implicitDefEqProofs [hX0, hX, htk3, hj]
          try clear hX0 hX X
          refine ⟨by omega, ?_⟩
          intros
          refine hK _ _ _ ?_
          clear hK hGc hGh
          clear K Gc Gh
          have hjl : (out.take j).length = j := by simp; omega
          have hfl : ((out.take j).flatMap Enc.enc).length = j * 3 := by rw [flen_pr, hjl]
          have hjm : min j out.length = j := by omega
          have htt : ((out.take j).flatMap Enc.enc).take (j * 3) = (out.take j).flatMap Enc.enc := List.take_of_length_le (by omega)
          have hw1 : ((out.take j).flatMap Enc.enc ++ Enc.enc p).length = (j + 1) * 3 := by simp; omega
          have hw2 : ((out.take j).flatMap Enc.enc ++ Enc.enc p).take ((j + 1) * 3) = (out.take j).flatMap Enc.enc ++ Enc.enc p := List.take_of_length_le (by omega)
          simp only [enc_pr] at hw1 hw2
          repeat refine pw_seq ?_
          refine pw_N [] (by rfl) (by rfl) fun K Gc Gh hK hGc hGh X hX0 hX => ?_
          simp -implicitDefEqProofs [hX0, hX, hjm, htt]
          try clear hX0 hX X
          refine ⟨by omega, ?_⟩
          intros
          refine hK _ _ _ ?_
          clear hK hGc hGh
          clear K Gc Gh
          repeat refine pw_seq ?_
          refine pw_N [] (by rfl) (by rfl) fun K Gc Gh hK hGc hGh X hX0 hX => ?_
          simp -implicitDefEqProofs [hX0, hX, hdr3, hj, hw1, hw2]
          try clear hX0 hX X
          refine ⟨by omega, ?_⟩
          intros
          refine hK _ _ _ ?_
          clear hK hGc hGh
          clear K Gc Gh
          refine pw_frz 2 rfl ?_
          repeat refine pw_seq ?_
          refine pw_N [] (by rfl) (by rfl) fun K Gc Gh hK hGc hGh X hX0 hX => ?_
          simp -implicitDefEqProofs [hX0, hX]
          try clear hX0 hX X
          intros
          refine hK _ _ _ ?_
          clear hK hGc hGh
          clear K Gc Gh
          have hol2 : (out.take j ++ p :: out.drop j).length = out.length + 1 := by simp; omega
          refine again_mk (k + 1, out.take j ++ p :: out.drop j) [_, _] ⟨hq2, hp1 ▸ r1, r2⟩ (by simp; omega) ?_ rfl (by simp; exact ⟨rfl, rfl⟩)
          simp [wrN k (by omega)]
          have x1 : j + 1 + (out.length - j) = out.length + 1 := by omega
          have x2 : ((out.drop j).flatMap Enc.enc).take ((out.length - j) * 3) = (out.drop j).flatMap Enc.enc := List.take_of_length_le (by rw [flen_pr]; simp)
          rw [if_pos (by omega), x2, x1]
          simp [hol2]
    · simp at hq2
      obtain rfl : k = c.length := by omega
      rw [prsTo_next x c i s.c (htk i s a3)] at hp
      refine pw_exit ?_
      repeat refine pw_seq ?_
      refine pw_N [] (by rfl) (by rfl) fun K Gc Gh hK hGc hGh X hX0 hX => ?_
      simp -implicitDefEqProofs [hX0, hX]
      try clear hX0 hX X
      intros
      refine hK _ _ _ ?_
      clear hK hGc hGh
      clear K Gc Gh
      exact again_mk (i + 1, out) [] ⟨hq, hp, hsd⟩ (by simp; omega) (by simp [wrN i (by omega)]) rfl (by simp)
  · simp at hq
    obtain rfl : i = c.length := by omega
    rw [List.take_length] at hp
    have : out = pairsP x c := pairsP_of hnd hp hsd
    subst this
    refine pw_exit ?_
    repeat refine pw_seq ?_
    refine pw_N [] (by rfl) (by rfl) fun K Gc Gh hK hGc hGh X hX0 hX => ?_
    simp -implicitDefEqProofs [hX0, hX]
    try clear hX0 hX X
    intros
    refine hK _ _ _ ?_
    clear hK hGc hGh
    clear K Gc Gh
    repeat refine pw_seq ?_
    exact pw_ret (ret_pure hd rfl rfl)

end Go.Proofs.YtafcjklojnhbnaaGreat.Pv

