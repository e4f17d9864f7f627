/- Good customers, made of any. -/
import Derived.Test.YtafcjklojnhbnaaGreatJb
namespace Go.Proofs.YtafcjklojnhbnaaGreat.Pv
open Go

def putB (n d : Nat) : Nat := (putN n d).toNat
theorem putN_ok (n d : Nat) : putN n d = ((putB n d : Nat) : Int) ∧ putB n d < 2 ^ 64 := by
  have h := numB_le ((bitsZ n).set d 1) (fun b hb => by
    rcases mem_set hb with h | h
    · exact bitsZ_01 n b h
    · exact .inr h)
  rw [List.length_set, bitsZ_len] at h
  unfold putB putN
  omega
def patTo (p : Nat) : Nat → Nat
  | 0 => 0
  | k + 1 => if bitN p k = 1 then putB (patTo p k) k else patTo p k
theorem patTo_lt (p : Nat) : ∀ k, patTo p k < 2 ^ 64
  | 0 => by simp [patTo]
  | k + 1 => by
    unfold patTo
    split
    · exact (putN_ok _ _).2
    · exact patTo_lt p k
def patsG (pats : List Nat) (days : Int) : List Nat :=
  if pats = [] then [1] else (pats.take 4).map fun p => patTo p days.toNat
def goodC (c : Cust) (days : Int) : Cust :=
  if c.kind.tmod 2 = 0 then ⟨2, 0, [], rnd c.rate 0 9, rnd c.size 1 30, rnd c.start 0 (rnd c.size 1 30), rnd c.rule 1 2, rnd c.hold 0 4⟩
  else ⟨1, rnd c.demand 1 15, patsG c.pats days, 0, 0, 0, 0, 0⟩

structure CustOk (c : Cust) : Prop where
  kind : I64 c.kind
  demand : I64 c.demand
  pats : ∀ p ∈ c.pats, p < 2 ^ 64
  npats : c.pats.length ≤ 9223372036854775807
  rate : I64 c.rate
  size : I64 c.size
  start : I64 c.start
  rule : I64 c.rule
  hold : I64 c.hold

theorem drop_take_map {α β : Type} (f : α → β) {l : List α} {k : Nat} {a : α} (ht : l.take (k + 1) = l.take k ++ [a]) : (l.take (k + 1)).map f = (l.take k).map f ++ [f a] := by rw [ht]; simp

set_option maxRecDepth 10000 in
theorem good_ok (c : Cust) (days : Int) (hc : CustOk c) (h0 : 0 ≤ days) (h1 : days ≤ 63) : Pure Tryz.prog 29 [.agg (custL c), I days] (.agg (custL (goodC c days))) := by
  obtain ⟨n, rfl⟩ := Int.eq_ofNat_of_zero_le h0
  have hs := rnd_le c.size 1 30 (by omega)
  refine pure_enter Tryz.func29 (by rfl) rfl Tryz.ntmps29 (congrArg Array.toList Tryz.results29) (by simp) fun S nx hd => ?_
  repeat refine pw_seq ?_
  refine pw_N [] (by rfl) (by rfl) fun K Gc Gh hK hGc hGh X hX0 hX => ?_
  simp -implicitDefEqProofs [hX0, hX]
  try clear hX0 hX X
  intro v0 v1
  refine hK _ _ _ ?_
  clear hK hGc hGh
  clear K Gc Gh
  repeat refine pw_seq ?_
  refine pw_N [] (by rfl) (by rfl) fun K Gc Gh hK hGc hGh X hX0 hX => ?_
  simp -implicitDefEqProofs [hX0, hX]
  try clear hX0 hX X
  intros
  refine hK _ _ _ ?_
  clear hK hGc hGh
  clear K Gc Gh
  by_cases hk : c.kind.tmod 2 = 0
  · refine pw_ct (by simp [hk]) ?_
    repeat refine pw_seq ?_
    refine pw_Y (some [nx]) (Row.pures [0, 1, 2, 3, 4, 5, 6, 7, 8, 9, 10, 11, 12] (.alt 13 (.alt 14 (.done) .stop) .stop)) mixed (by rfl) (by rfl) (by rfl) fun K Gp Gc Gh hK hGp hGc hGh X hX0 hX1 hX2 hX => ?_
    simp -implicitDefEqProofs [hX2]
    try clear hX0 hX1 hX2 hX X
    refine hGp _ _ _ _ _ _ _ _ (round_ok _ _ _ hc.rate (by omega) (by omega) (by omega)) ?_
    clear hGp hGc hGh
    clear Gp Gc Gh
    refine px_go fun Gp Gc Gh hGp hGc hGh X hX0 hX1 hX2 hX => ?_
    simp -implicitDefEqProofs [hX2]
    try clear hX0 hX1 hX2 hX X
    refine hGp _ _ _ _ _ _ _ _ (round_ok _ _ _ hc.size (by omega) (by omega) (by omega)) ?_
    clear hGp hGc hGh
    clear Gp Gc Gh
    refine px_go fun Gp Gc Gh hGp hGc hGh X hX0 hX1 hX2 hX => ?_
    simp -implicitDefEqProofs [hX2]
    try clear hX0 hX1 hX2 hX X
    refine hGp _ _ _ _ _ _ _ _ (round_ok _ _ _ hc.rule (by omega) (by omega) (by omega)) ?_
    clear hGp hGc hGh
    clear Gp Gc Gh
    refine px_go fun Gp Gc Gh hGp hGc hGh X hX0 hX1 hX2 hX => ?_
    simp -implicitDefEqProofs [hX2]
    try clear hX0 hX1 hX2 hX X
    refine hGp _ _ _ _ _ _ _ _ (round_ok _ _ _ hc.hold (by omega) (by omega) (by omega)) ?_
    clear hGp hGc hGh
    clear Gp Gc Gh
    refine px_go fun Gp Gc Gh hGp hGc hGh X hX0 hX1 hX2 hX => ?_
    simp -implicitDefEqProofs [hX0, hX1, hX2, hX]
    try clear hX0 hX1 hX2 hX X
    intro v2
    refine hK _ _ _ ?_
    clear hK hGp hGc hGh
    clear K Gp Gc Gh
    repeat refine pw_seq ?_
    refine pw_N [] (by rfl) (by rfl) fun K Gc Gh hK hGc hGh X hX0 hX => ?_
    simp -implicitDefEqProofs [hX]
    try clear hX0 hX X
    refine hGc _ _ _ _ _ _ _ fun hsuf => ((round_ok _ _ _ hc.start (by omega) (by omega) (by omega) _).mono ?_).v
    rintro _ _ ⟨rfl, rfl⟩
    refine ⟨_, _, rfl, ?_⟩
    clear hGc hGh
    clear Gc Gh
    refine xs_go hsuf (D := []) (by rfl) fun Gc Gh hGc hGh X hX0 hX => ?_
    simp -implicitDefEqProofs [hX0, hX]
    try clear hX0 hX X
    intros
    refine hK _ _ _ ?_
    clear hK hGc hGh
    clear K Gc Gh
    repeat refine pw_seq ?_
    refine pw_N [] (by rfl) (by rfl) fun K Gc Gh hK hGc hGh X hX0 hX => ?_
    simp -implicitDefEqProofs [hX0, hX]
    try clear hX0 hX X
    intros
    refine hK _ _ _ ?_
    clear hK hGc hGh
    clear K Gc Gh
    refine pw_nilC 1 2 rfl rfl ?_
    repeat refine pw_seq ?_
    exact pw_ret (ret_pure hd (by simp; rfl) (by simp [goodC, hk]))
  · refine pw_cf (by simp [hk]) ?_
    refine pw_skip ?_
    repeat refine pw_seq ?_
    refine pw_N [] (by rfl) (by rfl) fun K Gc Gh hK hGc hGh X hX0 hX => ?_
    simp -implicitDefEqProofs [hX]
    try clear hX0 hX X
    refine hGc _ _ _ _ _ _ _ fun hsuf => ((round_ok _ _ _ hc.demand (by omega) (by omega) (by omega) _).mono ?_).v
    rintro _ _ ⟨rfl, rfl⟩
    refine ⟨_, _, rfl, ?_⟩
    clear hGc hGh
    clear Gc Gh
    refine xs_go hsuf (D := []) (by rfl) fun Gc Gh hGc hGh X hX0 hX => ?_
    simp -implicitDefEqProofs [hX0, hX]
    try clear hX0 hX X
    intro v2
    intros
    refine hK _ _ _ ?_
    clear hK hGc hGh
    clear K Gc Gh
    refine pw_seq (pw_nilObX 2 2 70 1 rfl rfl fun v3 => ?_)
    repeat refine pw_seq ?_
    refine pw_N [] (by rfl) (by rfl) fun K Gc Gh hK hGc hGh X hX0 hX => ?_
    simp -implicitDefEqProofs [hX0, hX]
    try clear hX0 hX X
    intros
    refine hK _ _ _ ?_
    clear hK hGc hGh
    clear K Gc Gh
    have hnp := hc.npats
    refine pw_joinK (nx := nx) (σ := Nat × Nat × Nat × Nat) (fun _ => True) (fun (v, v1, v2, v3) => [(4, .ptr (nx + 1) v1 0), (6, .ptr (nx + 2) v2 0)]) (fun _ => S)
      (fun (v, v1, v2, v3) => [.cells v 60 (custL c), .cells v1 60 [I 0, I 0, .sc (.slice none 0 0), I 0, I 0, I 0, I 0, I 0], .cells v2 60 [I 1, I (rnd c.demand 1 15), .sl (nx + 3) v3 1 0 (c.pats.take 4).length, I 0, I 0, I 0, I 0, I 0], .cells v3 70 (((c.pats.take 4).map fun p => patTo p n).flatMap Enc.enc)]) ?_ ?_
    · repeat refine pw_seq ?_
      refine pw_block (pw_loopL (fun s : Nat × List Nat × Nat × Nat × Nat × Nat => s.1 ≤ c.pats.length ∧ s.1 ≤ 4 ∧ s.2.1 = (c.pats.take s.1).map fun p => patTo p n) (fun (k, out, v, v1, v2, v3) => [(1, I n), (2, .ptr nx v 0), (4, .ptr (nx + 1) v1 0), (6, .ptr (nx + 2) v2 0), (7, I k)])
        (fun (k, out, v, v1, v2, v3) => [.cells v 60 (custL c), .cells v1 60 [I 0, I 0, .sc (.slice none 0 0), I 0, I 0, I 0, I 0, I 0], .cells v2 60 [I 1, I (rnd c.demand 1 15), .sl (nx + 3) v3 1 0 out.length, I 0, I 0, I 0, I 0, I 0], .cells v3 70 (out.flatMap Enc.enc)])
        (fun s => 4 - s.1) (0, [], v0, v1, v2, v3) [] (by simp) (by simp) (by simp) ?_)
      rintro ⟨k, out, v0, v1, v2, v3⟩ ⟨hk1, hk4, ho⟩
      simp only at hk1 hk4 ho ⊢
      have hol : out.length = k := by rw [ho]; simp; omega
      have fin : (k = c.pats.length ∨ k = 4) → out = (c.pats.take 4).map fun p => patTo p n := by
        rintro (q | q)
        · rw [ho, List.take_of_length_le (by omega), List.take_of_length_le (by omega)]
        · rw [ho, q]
      have fin2 : (k = c.pats.length ∨ k = 4) → out.length = (c.pats.take 4).length := fun q => by rw [fin q]; simp
      by_cases hq1 : k < c.pats.length
      · by_cases hq2 : (k : Int) < 4
        · repeat refine pw_seq ?_
          refine pw_N [(5, 43)] (by rfl) (by rfl) fun K Gc Gh hK hGc hGh X hX0 hX => ?_
          simp -implicitDefEqProofs [hX0, hX, hq1, hq2]
          try clear hX0 hX X
          intros
          refine hK _ _ _ ?_
          clear hK hGc hGh
          clear K Gc Gh
          repeat refine pw_seq ?_
          refine pw_ct rfl ?_
          obtain ⟨p, tl, a1, a2, a3, e0⟩ := el1 rfl c.pats k hq1
          have hp := hc.pats p (List.mem_of_getElem? a1)
          refine pw_skip (pw_seq (pw_block ?_))
          repeat refine pw_seq ?_
          refine pw_N [] (by rfl) (by rfl) fun K Gc Gh hK hGc hGh X hX0 hX => ?_
          simp -implicitDefEqProofs [hX0, hX]
          try clear hX0 hX X
          intros
          refine hK _ _ _ ?_
          clear hK hGc hGh
          clear K Gc Gh
          repeat refine pw_seq ?_
          refine pw_N [] (by rfl) (by rfl) fun K Gc Gh hK hGc hGh X hX0 hX => ?_
          simp -implicitDefEqProofs [hX0, hX]
          try clear hX0 hX X
          intros
          refine hK _ _ _ ?_
          clear hK hGc hGh
          clear K Gc Gh
          repeat refine pw_seq ?_
          refine pw_block (pw_loopL (fun s : Nat × Nat × Nat × Nat × Nat => s.1 ≤ n) (fun (d, v, v1, v2, v3) => [(1, I n), (2, .ptr nx v 0), (4, .ptr (nx + 1) v1 0), (6, .ptr (nx + 2) v2 0), (7, I k), (8, U (patTo p d)), (9, I d)])
            (fun (d, v, v1, v2, v3) => [.cells v 60 (custL c), .cells v1 60 [I 0, I 0, .sc (.slice none 0 0), I 0, I 0, I 0, I 0, I 0], .cells v2 60 [I 1, I (rnd c.demand 1 15), .sl (nx + 3) v3 1 0 out.length, I 0, I 0, I 0, I 0, I 0], .cells v3 70 (out.flatMap Enc.enc)])
            (fun s => n - s.1) (0, v0, v1, v2, v3) [] (by simp) (by simp [patTo]) (by simp) ?_)
          rintro ⟨d, v0, v1, v2, v3⟩ hdn
          simp only at hdn ⊢
          repeat refine pw_seq ?_
          refine pw_N [] (by rfl) (by rfl) fun K Gc Gh hK hGc hGh X hX0 hX => ?_
          simp -implicitDefEqProofs [hX0, hX]
          try clear hX0 hX X
          intros
          refine hK _ _ _ ?_
          clear hK hGc hGh
          clear K Gc Gh
          repeat refine pw_seq ?_
          refine pw_cond rfl (fun hd1 => ?_) (fun hd1 => ?_)
          · simp at hd1
            refine pw_skip (pw_seq (pw_block ?_))
            repeat refine pw_seq ?_
            refine pw_N [] (by rfl) (by rfl) fun K Gc Gh hK hGc hGh X hX0 hX => ?_
            simp -implicitDefEqProofs [hX, hq1, e0]
            try clear hX0 hX X
            refine hGc _ _ _ _ _ _ _ fun hsuf => ((has_ok p d hp (by omega) (by omega) _).mono ?_).v
            rintro _ _ ⟨rfl, rfl⟩
            refine ⟨_, _, rfl, ?_⟩
            clear hGc hGh
            clear Gc Gh
            refine xs_go hsuf (D := []) (by rfl) fun Gc Gh hGc hGh X hX0 hX => ?_
            simp -implicitDefEqProofs [hX0]
            try clear hX0 hX X
            intros
            refine hK _ _ _ ?_
            clear hK hGc hGh
            clear K Gc Gh
            repeat refine pw_seq ?_
            refine pw_cond rfl (fun hb => ?_) (fun hb => ?_)
            · simp at hb
              repeat refine pw_seq ?_
              refine pw_N [] (by rfl) (by rfl) fun K Gc Gh hK hGc hGh X hX0 hX => ?_
              simp -implicitDefEqProofs [hX]
              try clear hX0 hX X
              refine hGc _ _ _ _ _ _ _ fun hsuf => ((put_ok _ d (patTo_lt p d) (by omega) (by omega) _).mono ?_).v
              rintro _ _ ⟨rfl, rfl⟩
              refine ⟨_, _, rfl, ?_⟩
              clear hGc hGh
              clear Gc Gh
              refine xs_go hsuf (D := []) (by rfl) fun Gc Gh hGc hGh X hX0 hX => ?_
              simp -implicitDefEqProofs [hX0, hX]
              try clear hX0 hX X
              intros
              refine hK _ _ _ ?_
              clear hK hGc hGh
              clear K Gc Gh
              repeat refine pw_seq ?_
              refine pw_N [] (by rfl) (by rfl) fun K Gc Gh hK hGc hGh X hX0 hX => ?_
              simp -implicitDefEqProofs [hX0, hX]
              try clear hX0 hX X
              intros
              refine hK _ _ _ ?_
              clear hK hGc hGh
              clear K Gc Gh
              exact again_mk (d + 1, v0, v1, v2, v3) [] (by simp; omega) (by simp; omega) (by simp [wrN d (by omega), patTo, hb, (putN_ok _ _).1]) rfl (by simp)
            · simp at hb
              refine pw_skip ?_
              repeat refine pw_seq ?_
              refine pw_N [] (by rfl) (by rfl) fun K Gc Gh hK hGc hGh X hX0 hX => ?_
              simp -implicitDefEqProofs [hX0, hX]
              try clear hX0 hX X
              intros
              refine hK _ _ _ ?_
              clear hK hGc hGh
              clear K Gc Gh
              exact again_mk (d + 1, v0, v1, v2, v3) [] (by simp; omega) (by simp; omega) (by simp [wrN d (by omega), patTo, hb]) rfl (by simp)
          · simp at hd1
            have hd' : d = n := by omega
            subst hd'
            refine pw_exit ?_
            repeat refine pw_seq ?_
            refine pw_N [] (by rfl) (by rfl) fun K Gc Gh hK hGc hGh X hX0 hX => ?_
            simp -implicitDefEqProofs [hX0, hX]
            try clear hX0 hX X
            refine ⟨by omega, ?_⟩
            intros
            refine hK _ _ _ ?_
            clear hK hGc hGh
            clear K Gc Gh
            repeat refine pw_seq ?_
            refine pw_N [] (by rfl) (by rfl) fun K Gc Gh hK hGc hGh X hX0 hX => ?_
            simp -implicitDefEqProofs [hX0, hX]
            try clear hX0 hX X
            intros
            refine hK _ _ _ ?_
            clear hK hGc hGh
            clear K Gc Gh
            exact again_mk (k + 1, out ++ [patTo p d], v0, v1, v2, v3 + 1) [] (by simp [drop_take_map _ a3, ho]; omega) (by simp; omega) (by simp [wrN k (by omega)]) rfl (by simp)
        · repeat refine pw_seq ?_
          refine pw_N [(5, 43)] (by rfl) (by rfl) fun K Gc Gh hK hGc hGh X hX0 hX => ?_
          simp -implicitDefEqProofs [hX0, hX, hq1, hq2]
          try clear hX0 hX X
          intros
          refine hK _ _ _ ?_
          clear hK hGc hGh
          clear K Gc Gh
          repeat refine pw_seq ?_
          refine pw_cf rfl ?_
          have hk := fin (.inr (by omega))
          have hk2 := fin2 (.inr (by omega))
          exact pw_exit (at_mk (v0, v1, v2, v3) [] trivial (by simp) rfl (by simp only [hk2]; rw [← hk]; simp))
      · repeat refine pw_seq ?_
        refine pw_N [(5, 43)] (by rfl) (by rfl) fun K Gc Gh hK hGc hGh X hX0 hX => ?_
        simp -implicitDefEqProofs [hX0, hX, hq1, undef]
        try clear hX0 hX X
        intros
        refine hK _ _ _ ?_
        clear hK hGc hGh
        clear K Gc Gh
        repeat refine pw_seq ?_
        refine pw_cf rfl ?_
        have hk := fin (.inl (by omega))
        have hk2 := fin2 (.inl (by omega))
        exact pw_exit (at_mk (v0, v1, v2, v3) [] trivial (by simp) rfl (by simp only [hk2]; rw [← hk]; simp))
    · rintro ⟨v0, v1, v2, v3⟩ -
      simp only
      by_cases he : c.pats = []
      · have hg : goodC c n = ⟨1, rnd c.demand 1 15, [1], 0, 0, 0, 0, 0⟩ := by simp [goodC, hk, patsG, he]
        rw [hg, he]
        repeat refine pw_seq ?_
        refine pw_N [] (by rfl) (by rfl) fun K Gc Gh hK hGc hGh X hX0 hX => ?_
        simp -implicitDefEqProofs [hX0, hX]
        try clear hX0 hX X
        intros
        refine hK _ _ _ ?_
        clear hK hGc hGh
        clear K Gc Gh
        repeat refine pw_seq ?_
        refine pw_ct rfl ?_
        repeat refine pw_seq ?_
        refine pw_N [] (by rfl) (by rfl) fun K Gc Gh hK hGc hGh X hX0 hX => ?_
        simp -implicitDefEqProofs [hX0, hX]
        try clear hX0 hX X
        intros
        refine hK _ _ _ ?_
        clear hK hGc hGh
        clear K Gc Gh
        repeat refine pw_seq ?_
        refine pw_N [] (by rfl) (by rfl) fun K Gc Gh hK hGc hGh X hX0 hX => ?_
        simp -implicitDefEqProofs [hX0, hX]
        try clear hX0 hX X
        intros
        refine hK _ _ _ ?_
        clear hK hGc hGh
        clear K Gc Gh
        refine pw_frz 3 rfl ?_
        repeat refine pw_seq ?_
        exact pw_ret (ret_pure hd (by simp; rfl) rfl)
      · have hg : goodC c n = ⟨1, rnd c.demand 1 15, (c.pats.take 4).map fun p => patTo p n, 0, 0, 0, 0, 0⟩ := by simp [goodC, hk, patsG, he]
        have hlen : ((c.pats.take 4).map fun p => patTo p n).length = (c.pats.take 4).length := by simp
        have hne : ¬ (c.pats.take 4).length = 0 := by simp [he]
        rw [hg, ← hlen]
        rw [← hlen] at hne
        generalize (c.pats.take 4).map (fun p => patTo p n) = out at *
        have hne' : out ≠ [] := by simpa using hne
        repeat refine pw_seq ?_
        refine pw_N [] (by rfl) (by rfl) fun K Gc Gh hK hGc hGh X hX0 hX => ?_
        simp -implicitDefEqProofs [hX0, hX, hne]
        try clear hX0 hX X
        intros
        refine hK _ _ _ ?_
        clear hK hGc hGh
        clear K Gc Gh
        repeat refine pw_seq ?_
        refine pw_cf rfl ?_
        refine pw_skip ?_
        repeat refine pw_seq ?_
        refine pw_N [] (by rfl) (by rfl) fun K Gc Gh hK hGc hGh X hX0 hX => ?_
        simp -implicitDefEqProofs [hX0, hX]
        try clear hX0 hX X
        intros
        refine hK _ _ _ ?_
        clear hK hGc hGh
        clear K Gc Gh
        refine pw_frz 3 rfl ?_
        repeat refine pw_seq ?_
        exact pw_ret (ret_pure hd (by simp; rfl) rfl)

end Go.Proofs.YtafcjklojnhbnaaGreat.Pv
