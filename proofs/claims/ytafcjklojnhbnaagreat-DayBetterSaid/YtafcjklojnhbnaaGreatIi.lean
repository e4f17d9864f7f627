/- Good stops, made of any. -/
import Derived.Test.YtafcjklojnhbnaaGreatIh
import Derived.Test.YtafcjklojnhbnaaGreatJd
namespace Go.Proofs.YtafcjklojnhbnaaGreat.Pv
open Go

def absq (q : Int) : Int := if q < 0 then -(q + 1) else q
theorem absq_ok {q : Int} (h : I64 q) : 0 ≤ absq q ∧ absq q ≤ 9223372036854775807 := by unfold absq I64 at *; split <;> omega
def goodStop (n : Int) (out : List Stop) (s : Stop) : List Stop :=
  if s.c < 0 ∨ n ≤ s.c then out else if out.any (fun o => decide (o.c = s.c)) then out else out ++ [⟨s.c, 1 + absq s.q % 12⟩]
def goodL (n : Int) : List Stop → List Stop → List Stop
  | out, [] => out
  | out, s :: l => if out.length < 6 then goodL n (goodStop n out s) l else out
theorem goodL_full (n : Int) (out l : List Stop) (h : ¬ out.length < 6) : goodL n out l = out := by
  cases l with
  | nil => rfl
  | cons s l => simp [goodL, h]

theorem goodStop_len (n : Int) (out : List Stop) (s : Stop) : (goodStop n out s).length ≤ out.length + 1 := by
  unfold goodStop; split
  · omega
  · split
    · omega
    · simp

set_option maxRecDepth 10000 in
theorem goodS_ok (x : Inst) (l : List Stop) (hl : l.length ≤ 9223372036854775807) (_ : x.cust.length ≤ 1048576) (hs : ∀ s ∈ l, StopOk s) : Pure Tryz.prog 14 [.agg (instL x), L l] (L (goodL x.cust.length [] l)) := by
  refine pure_enter Tryz.func14 (by rfl) rfl Tryz.ntmps14 (congrArg Array.toList Tryz.results14) (by simp) fun S nx hd => ?_
  repeat refine pw_seq ?_
  refine pw_N [] (by rfl) (by rfl) fun K Gc Gh hK hGc hGh X hX0 hX => ?_
  simp -implicitDefEqProofs [hX0, hX]
  try clear hX0 hX X
  intro v0
  refine hK _ _ _ ?_
  clear hK hGc hGh
  clear K Gc Gh
  repeat refine pw_seq ?_
  refine pw_N [] (by rfl) (by rfl) fun K Gc Gh hK hGc hGh X hX0 hX => ?_
  simp -implicitDefEqProofs [hX0, hX]
  try clear hX0 hX X
  intros
  refine hK _ _ _ ?_
  clear hK hGc hGh
  clear K Gc Gh
  refine pw_seq (pw_nilX 5 43 2 rfl fun v1 => ?_)
  repeat refine pw_seq ?_
  refine pw_N [] (by rfl) (by rfl) fun K Gc Gh hK hGc hGh X hX0 hX => ?_
  simp -implicitDefEqProofs [hX0, hX]
  try clear hX0 hX X
  intros
  refine hK _ _ _ ?_
  clear hK hGc hGh
  clear K Gc Gh
  refine pw_joinK (nx := nx) (σ := Nat × Nat) (fun _ => True) (fun (v0, v1) => [(5, .sl (nx + 1) v1 2 0 (goodL x.cust.length [] l).length)]) (fun _ => S) (fun (v0, v1) => [.cells v0 25 (instL x), .cells v1 43 ((goodL x.cust.length [] l).flatMap Enc.enc)]) ?_ ?_
  · repeat refine pw_seq ?_
    refine pw_block (pw_loopL (fun s : Nat × List Stop × Nat × Nat => s.1 ≤ l.length ∧ s.2.1.length ≤ 6 ∧ goodL x.cust.length s.2.1 (l.drop s.1) = goodL x.cust.length [] l) (fun (k, out, v0, v1) => [(1, L l), (2, .ptr nx v0 0), (5, .sl (nx + 1) v1 2 0 out.length), (6, I k)]) (fun (k, out, v0, v1) => [.cells v0 25 (instL x), .cells v1 43 (out.flatMap Enc.enc)]) (fun s => l.length - s.1) (0, [], v0, v1) [] (by simp) (by simp) (by simp) ?_)
    rintro ⟨k, out, v0, v1⟩ ⟨hk, h6, ho⟩
    simp only at hk h6 ho ⊢
    by_cases h1 : k < l.length
    · by_cases h2 : out.length < 6
      · have h2' : (out.length : Int) < 6 := by omega
        obtain ⟨s, tl, a1, a2, a3, e1, e0⟩ := el 2 rfl l k h1
        have hso := hs s (List.mem_of_getElem? a1)
        rw [a2] at ho
        simp only [goodL, if_pos h2] at ho
        repeat refine pw_seq ?_
        refine pw_N [(4, 15)] (by rfl) (by rfl) fun K Gc Gh hK hGc hGh X hX0 hX => ?_
        simp -implicitDefEqProofs [hX0, hX, h1, h2']
        try clear hX0 hX X
        intros
        refine hK _ _ _ ?_
        clear hK hGc hGh
        clear K Gc Gh
        repeat refine pw_seq ?_
        refine pw_ct rfl ?_
        refine pw_skip (pw_seq (pw_block ?_))
        repeat refine pw_seq ?_
        refine pw_N [] (by rfl) (by rfl) fun K Gc Gh hK hGc hGh X hX0 hX => ?_
        simp -implicitDefEqProofs [hX0, hX, h1, e0]
        try clear hX0 hX X
        intros
        refine hK _ _ _ ?_
        clear hK hGc hGh
        clear K Gc Gh
        have w1 := wrN k (by omega)
        have bad : (s.c < 0 ∨ (x.cust.length : Int) ≤ s.c) → goodL x.cust.length out (l.drop (k + 1)) = goodL x.cust.length [] l := fun q => by rw [← ho, goodStop, if_pos q]
        by_cases h3 : s.c < 0
        · repeat refine pw_seq ?_
          refine pw_N [(2, 29)] (by rfl) (by rfl) fun K Gc Gh hK hGc hGh X hX0 hX => ?_
          simp -implicitDefEqProofs [hX0, hX, h3, undef]
          try clear hX0 hX X
          intros
          refine hK _ _ _ ?_
          clear hK hGc hGh
          clear K Gc Gh
          repeat refine pw_seq ?_
          refine pw_ct rfl ?_
          refine pw_exit ?_
          repeat refine pw_seq ?_
          refine pw_N [] (by rfl) (by rfl) fun K Gc Gh hK hGc hGh X hX0 hX => ?_
          simp -implicitDefEqProofs [hX0, hX]
          try clear hX0 hX X
          intros
          refine hK _ _ _ ?_
          clear hK hGc hGh
          clear K Gc Gh
          exact again_mk (k + 1, out, v0, v1) [] ⟨by omega, h6, bad (.inl h3)⟩ (by simp; omega) (by simp [w1]) rfl (by simp)
        by_cases h4 : (x.cust.length : Int) ≤ s.c
        · repeat refine pw_seq ?_
          refine pw_N [(2, 29)] (by rfl) (by rfl) fun K Gc Gh hK hGc hGh X hX0 hX => ?_
          simp -implicitDefEqProofs [hX0, hX, h3, h4]
          try clear hX0 hX X
          intros
          refine hK _ _ _ ?_
          clear hK hGc hGh
          clear K Gc Gh
          repeat refine pw_seq ?_
          refine pw_ct rfl ?_
          refine pw_exit ?_
          repeat refine pw_seq ?_
          refine pw_N [] (by rfl) (by rfl) fun K Gc Gh hK hGc hGh X hX0 hX => ?_
          simp -implicitDefEqProofs [hX0, hX]
          try clear hX0 hX X
          intros
          refine hK _ _ _ ?_
          clear hK hGc hGh
          clear K Gc Gh
          exact again_mk (k + 1, out, v0, v1) [] ⟨by omega, h6, bad (.inr h4)⟩ (by simp; omega) (by simp [w1]) rfl (by simp)
        repeat refine pw_seq ?_
        refine pw_N [(2, 29)] (by rfl) (by rfl) fun K Gc Gh hK hGc hGh X hX0 hX => ?_
        simp -implicitDefEqProofs [hX0, hX, h3, h4]
        try clear hX0 hX X
        intros
        refine hK _ _ _ ?_
        clear hK hGc hGh
        clear K Gc Gh
        repeat refine pw_seq ?_
        refine pw_cf rfl ?_
        refine pw_skip ?_
        repeat refine pw_seq ?_
        refine pw_N [] (by rfl) (by rfl) fun K Gc Gh hK hGc hGh X hX0 hX => ?_
        simp -implicitDefEqProofs [hX0, hX]
        try clear hX0 hX X
        intros
        refine hK _ _ _ ?_
        clear hK hGc hGh
        clear K Gc Gh
        repeat refine pw_seq ?_
        refine pw_N [] (by rfl) (by rfl) fun K Gc Gh hK hGc hGh X hX0 hX => ?_
        simp -implicitDefEqProofs [hX0, hX]
        try clear hX0 hX X
        intros
        refine hK _ _ _ ?_
        clear hK hGc hGh
        clear K Gc Gh
        repeat refine pw_seq ?_
        refine pw_block (pw_loopL (fun s' : Nat × Bool × Nat × Nat => s'.1 ≤ out.length ∧ s'.2.1 = (out.take s'.1).any (fun o => decide (o.c = s.c))) (fun (j, had, v0, v1) => [(1, L l), (2, .ptr nx v0 0), (5, .sl (nx + 1) v1 2 0 out.length), (6, I k), (7, I s.c), (8, B had), (9, I j)]) (fun (j, had, v0, v1) => [.cells v0 25 (instL x), .cells v1 43 (out.flatMap Enc.enc)]) (fun s => out.length - s.1) (0, false, v0, v1) [] (by simp) (by simp) (by simp) ?_)
        rintro ⟨j, had, v0, v1⟩ ⟨hj, hh⟩
        simp only at hj hh ⊢
        repeat refine pw_seq ?_
        refine pw_N [] (by rfl) (by rfl) fun K Gc Gh hK hGc hGh X hX0 hX => ?_
        simp -implicitDefEqProofs [hX0, hX]
        try clear hX0 hX X
        intros
        refine hK _ _ _ ?_
        clear hK hGc hGh
        clear K Gc Gh
        repeat refine pw_seq ?_
        refine pw_cond rfl (fun hc => ?_) (fun hc => ?_)
        · simp at hc
          obtain ⟨o, tl2, b1, b2, b3, e3, e2⟩ := el 2 rfl out j hc
          have w2 := wrN j (by omega)
          refine pw_skip (pw_seq (pw_block ?_))
          cases had with
          | true =>
            repeat refine pw_seq ?_
            refine pw_N [(1, 43)] (by rfl) (by rfl) fun K Gc Gh hK hGc hGh X hX0 hX => ?_
            simp -implicitDefEqProofs [hX0, hX, undef]
            try clear hX0 hX X
            intros
            refine hK _ _ _ ?_
            clear hK hGc hGh
            clear K Gc Gh
            repeat refine pw_seq ?_
            refine pw_N [] (by rfl) (by rfl) fun K Gc Gh hK hGc hGh X hX0 hX => ?_
            simp -implicitDefEqProofs [hX0, hX]
            try clear hX0 hX X
            intros
            refine hK _ _ _ ?_
            clear hK hGc hGh
            clear K Gc Gh
            exact again_mk (j + 1, true, v0, v1) [] ⟨hc, by rw [b3, List.any_append, ← hh]; rfl⟩ (by simp; omega) (by simp [w2]) rfl (by simp)
          | false =>
            repeat refine pw_seq ?_
            refine pw_N [(1, 43)] (by rfl) (by rfl) fun K Gc Gh hK hGc hGh X hX0 hX => ?_
            simp -implicitDefEqProofs [hX0, hX, hc, e2]
            try clear hX0 hX X
            intros
            refine hK _ _ _ ?_
            clear hK hGc hGh
            clear K Gc Gh
            repeat refine pw_seq ?_
            refine pw_N [] (by rfl) (by rfl) fun K Gc Gh hK hGc hGh X hX0 hX => ?_
            simp -implicitDefEqProofs [hX0, hX]
            try clear hX0 hX X
            intros
            refine hK _ _ _ ?_
            clear hK hGc hGh
            clear K Gc Gh
            exact again_mk (j + 1, decide (o.c = s.c), v0, v1) [] ⟨hc, by rw [b3, List.any_append, ← hh]; simp⟩ (by simp; omega) (by simp [w2]) rfl (by simp)
        · simp at hc
          have : j = out.length := by omega
          subst this
          rw [List.take_length] at hh
          refine pw_exit ?_
          repeat refine pw_seq ?_
          refine pw_N [] (by rfl) (by rfl) fun K Gc Gh hK hGc hGh X hX0 hX => ?_
          simp -implicitDefEqProofs [hX0, hX, e1, h1]
          try clear hX0 hX X
          intros
          refine hK _ _ _ ?_
          clear hK hGc hGh
          clear K Gc Gh
          repeat refine pw_seq ?_
          refine pw_N [] (by rfl) (by rfl) fun K Gc Gh hK hGc hGh X hX0 hX => ?_
          simp -implicitDefEqProofs [hX0, hX]
          try clear hX0 hX X
          intros
          refine hK _ _ _ ?_
          clear hK hGc hGh
          clear K Gc Gh
          refine pw_joinK (nx := nx) (σ := Nat × Nat) (fun _ => True) (fun (v0, v1) => [(1, L l), (2, .ptr nx v0 0), (5, .sl (nx + 1) v1 2 0 out.length), (6, I k), (7, I s.c), (8, B had), (10, I (absq s.q))]) (fun _ => S) (fun (v0, v1) => [.cells v0 25 (instL x), .cells v1 43 (out.flatMap Enc.enc)]) ?_ ?_
          · have hq := hso.q
            unfold I64 at hq
            by_cases hqn : s.q < 0
            · have q1 : IntKind.i64.wrap (s.q + 1) = s.q + 1 := wr _ (by omega) (by omega)
              have q2 : IntKind.i64.wrap (-(s.q + 1)) = -(s.q + 1) := wr _ (by omega) (by omega)
              refine pw_ct (by simp [hqn]) ?_
              repeat refine pw_seq ?_
              refine pw_N [] (by rfl) (by rfl) fun K Gc Gh hK hGc hGh X hX0 hX => ?_
              simp -implicitDefEqProofs [hX0, hX, q1, q2]
              try clear hX0 hX X
              intros
              refine hK _ _ _ ?_
              clear hK hGc hGh
              clear K Gc Gh
              exact at_mk (v0, v1) [] trivial (by simp [absq, hqn]) rfl (by simp)
            · refine pw_cf (by simp [hqn]) ?_
              refine pw_skip ?_
              exact at_mk (v0, v1) [] trivial (by simp [absq, hqn]) rfl (by simp)
          · rintro ⟨v0, v1⟩ -
            simp only
            have hqa := absq_ok hso.q
            repeat refine pw_seq ?_
            refine pw_N [] (by rfl) (by rfl) fun K Gc Gh hK hGc hGh X hX0 hX => ?_
            simp -implicitDefEqProofs [hX0, hX]
            try clear hX0 hX X
            intros
            refine hK _ _ _ ?_
            clear hK hGc hGh
            clear K Gc Gh
            cases had with
            | true =>
              refine pw_cf (by simp) ?_
              refine pw_skip ?_
              repeat refine pw_seq ?_
              refine pw_N [] (by rfl) (by rfl) fun K Gc Gh hK hGc hGh X hX0 hX => ?_
              simp -implicitDefEqProofs [hX0, hX]
              try clear hX0 hX X
              intros
              refine hK _ _ _ ?_
              clear hK hGc hGh
              clear K Gc Gh
              exact again_mk (k + 1, out, v0, v1) [] ⟨by omega, h6, by rw [← ho, goodStop, if_neg (by omega), ← hh]; rfl⟩ (by simp; omega) (by simp [w1]) rfl (by simp)
            | false =>
              have hgs : goodStop x.cust.length out s = out ++ [⟨s.c, 1 + absq s.q % 12⟩] := by rw [goodStop, if_neg (by omega), ← hh]; rfl
              have q3 : (absq s.q).tmod 12 = absq s.q % 12 := Int.tmod_eq_emod_of_nonneg hqa.1
              have q4 : IntKind.i64.wrap (1 + absq s.q % 12) = 1 + absq s.q % 12 := wr _ (by omega) (by omega)
              refine pw_ct (by simp) ?_
              repeat refine pw_seq ?_
              refine pw_N [] (by rfl) (by rfl) fun K Gc Gh hK hGc hGh X hX0 hX => ?_
              simp -implicitDefEqProofs [hX0, hX, q3, q4]
              try clear hX0 hX X
              refine ⟨by omega, ?_⟩
              intros
              refine hK _ _ _ ?_
              clear hK hGc hGh
              clear K Gc Gh
              repeat refine pw_seq ?_
              refine pw_N [] (by rfl) (by rfl) fun K Gc Gh hK hGc hGh X hX0 hX => ?_
              simp -implicitDefEqProofs [hX0, hX]
              try clear hX0 hX X
              intros
              refine hK _ _ _ ?_
              clear hK hGc hGh
              clear K Gc Gh
              exact again_mk (k + 1, out ++ [⟨s.c, 1 + absq s.q % 12⟩], v0, v1 + 1) [] ⟨by omega, by simp; omega, by rw [← hgs]; exact ho⟩ (by simp; omega) (by simp [w1]) rfl (by simp)
      · have h2' : ¬ (out.length : Int) < 6 := by omega
        rw [goodL_full _ _ _ h2] at ho
        repeat refine pw_seq ?_
        refine pw_N [(4, 15)] (by rfl) (by rfl) fun K Gc Gh hK hGc hGh X hX0 hX => ?_
        simp -implicitDefEqProofs [hX0, hX, h1, h2']
        try clear hX0 hX X
        intros
        refine hK _ _ _ ?_
        clear hK hGc hGh
        clear K Gc Gh
        repeat refine pw_seq ?_
        refine pw_cf rfl ?_
        exact pw_exit (at_mk (v0, v1) [] trivial (by simp [ho]) rfl (by simp [ho]))
    · rw [List.drop_of_length_le (by omega), goodL] at ho
      repeat refine pw_seq ?_
      refine pw_N [(4, 15)] (by rfl) (by rfl) fun K Gc Gh hK hGc hGh X hX0 hX => ?_
      simp -implicitDefEqProofs [hX0, hX, h1, undef]
      try clear hX0 hX X
      intros
      refine hK _ _ _ ?_
      clear hK hGc hGh
      clear K Gc Gh
      repeat refine pw_seq ?_
      refine pw_cf rfl ?_
      exact pw_exit (at_mk (v0, v1) [] trivial (by simp [ho]) rfl (by simp [ho]))
  · rintro ⟨v0, v1⟩ -
    simp only
    repeat refine pw_seq ?_
    refine pw_N [] (by rfl) (by rfl) fun K Gc Gh hK hGc hGh X hX0 hX => ?_
    simp -implicitDefEqProofs [hX0, hX]
    try clear hX0 hX X
    intros
    refine hK _ _ _ ?_
    clear hK hGc hGh
    clear K Gc Gh
    refine pw_frz 1 rfl ?_
    repeat refine pw_seq ?_
    exact pw_ret (ret_pure hd (by simp; rfl) rfl)

end Go.Proofs.YtafcjklojnhbnaaGreat.Pv
